/- Carry: Values, Same, ints. -/
import Derived.Test.YtecplbjggbelbaaCC
namespace Go.Proofs.Ytecplbjggbelbaa
open Go Go.AH
set_option maxRecDepth 100000
/- A value's parts. -/
def tA (v : V) : Int := (v.cell 0).toI
def nA (v : V) : Int := (v.cell 1).toI
def okV (a o : V) : Bool := chkI (tA a) (nA a) == 0 && tA a == tyV o
def okAll : List V → List V → Bool
  | [], _ => true
  | a :: r, o :: s => okV a o && okAll r s
  | _ :: _, [] => false
def rOk (old new ws : List V) (b : Bool) : Tr (Ex × List V × List Ob) := .ite b (.ret (.exit 0, [.seq 48 old, .seq 48 new, .seq 44 ws, .top, .top], [])) (.ret (.ret, [.seq 48 old, .seq 48 new, .seq 44 ws, .full 44 0 0 0, .int .i64 2], [.row false 0 44 []]))
def lOk (old new ws us : List V) (len k : Int) : Tr (Ex × List V × List Ob) :=
  .test (decide (len = us.length) && decide (0 ≤ k) && decide (us.length ≤ 65536) && decide (us.length = old.length)) (rOk old new ws (okAll (us.drop k.toNat) (old.drop k.toNat)))
def LOk : List V → List Ob → Tr (Ex × List V × List Ob)
  | [.seq 48 old, .seq 48 new, .seq 44 ws, .seq 44 us, .int .i64 len, .int .i64 k], [] => lOk old new ws us len k
  | _, _ => .fail
/-- The value that a variable gets. -/
def valV (ws : List V) (t i : Int) : V := match decide (i ≥ 0) with | true => .agg [.int .i64 (tA (ws.getD i.toNat .top)), .int .i64 (nA (ws.getD i.toNat .top))] | false => .agg [.int .i64 (defT t), .int .i64 0]
/-- The values of the new variables (true: all of them). -/
def valRun (ws : List V) : List V → List V → List V → Bool × List V
  | [], _, acc => (true, acc)
  | i :: r, u :: s, acc => (match chkI (tyV u) 0 != 0 with | true => (false, acc) | false => valRun ws r s (acc ++ [valV ws (tyV u) i.toI]))
  | _ :: _, [], acc => (false, acc)
def rVal (x : Bool × List V) : Tr (Ex × List V × List Ob) := .ite x.1 (.ret (.exit 2, [.top, .top, .full 44 0 0 x.2.length], [.row false 0 44 x.2])) (.ret (.ret, [.full 44 0 0 0, .int .i64 2, .full 44 1 0 x.2.length], [.row false 0 44 [], .row false 0 44 x.2]))
def inTop (n : Nat) (is : List V) : Bool := is.all fun i => decide (i.toI < n)
def lVal (new ws is acc : List V) (n : Nat) (len k : Int) : Tr (Ex × List V × List Ob) :=
  .test (decide (len = is.length) && decide (0 ≤ k) && decide (is.length ≤ 65536) && decide (is.length = new.length) && inTop ws.length is && decide (acc.length ≤ k) && decide (n = acc.length)) (rVal (valRun ws (is.drop k.toNat) (new.drop k.toNat) acc))
def LVal : List V → List Ob → Tr (Ex × List V × List Ob)
  | [.seq 48 new, .seq 44 ws, .full 44 0 0 n, .seq 3 is, .int .i64 len, .int .i64 k], [.row false 0 44 acc] => lVal new ws is acc n len k
  | _, _ => .fail
def L13 : LM := fun key => (match key with | 4 => LOk | 11 => LVal | _ => fun _ _ => .fail)
def C13 : List (FuncId × Model) := [(22, mChk), (21, mDef), (16, mSlots)]
theorem ok13 : Ok C13 := ok_cons chk_holds (ok_cons def_holds (ok_cons slots_holds ok_nil))
def E13 : Env := EF 13 C13 L13
theorem ok_step (old new ws us : List V) (len k : Int) : (loopStep E13 0 4 (loopB Try.f13 4) [.seq 48 old, .seq 48 new, .seq 44 ws, .seq 44 us, .int .i64 len, .int .i64 k] []).eval =
  (Tr.ite (decide (k < len))
 (.ite (decide (0 ≤ k) && decide (k < ↑us.length))
  (.ite (!chkI (tA (us.getD k.toNat V.top)) (nA (us.getD k.toNat V.top)) != 0)
   (.ite (decide (0 ≤ k) && decide (k < ↑old.length))
    (.ite (tA (us.getD k.toNat V.top) != tyV (old.getD k.toNat V.top))
     (.ret ((Ex.ret, [V.seq 48 old, V.seq 48 new, V.seq 44 ws, V.full 44 0 0 0, V.int IntKind.i64 2], [Ob.row false 0 44 []])))
     (.ret ((Ex.normal,
       [V.seq 48 old, V.seq 48 new, V.seq 44 ws, V.seq 44 us, V.int IntKind.i64 len, V.int IntKind.i64 (IntKind.i64.wrap (k + 1))], []))))
    .fail)
   (.ret ((Ex.ret, [V.seq 48 old, V.seq 48 new, V.seq 44 ws, V.full 44 0 0 0, V.int IntKind.i64 2], [Ob.row false 0 44 []]))))
  .fail)
 (.ret ((Ex.exit 0, [V.seq 48 old, V.seq 48 new, V.seq 44 ws, V.top, V.top], [])))).eval := by kernel_rfl
theorem ok_ite {α : Type} (a o : V) (x y : Tr α) : (Tr.ite (!chkI (tA a) (nA a) != 0) (Tr.ite (tA a != tyV o) x y) x).eval = (Tr.ite (okV a o) y x).eval := by
  unfold okV
  by_cases h1 : chkI (tA a) (nA a) = 0
  · by_cases h2 : tA a = tyV o
    · simp [h1, h2, eval_ite]
    · have : (tA a == tyV o) = false := by simpa using h2
      simp [h1, h2, this, eval_ite]
  · have : (chkI (tA a) (nA a) == 0) = false := by simpa using h1
    simp [h1, this, eval_ite]
theorem ok_law : LoopLaw E13 0 (loopB Try.f13 4) := by
  refine ⟨fun vs _ => (match vs with | [_, _, _, .seq _ vs, _, .int _ k] => vs.length - k.toNat | _ => 0), fun vs os r h => ?_⟩
  rw [show loopKey (loopB Try.f13 4) = 4 from by kernel_rfl] at h ⊢
  replace h : (LOk vs os).eval = some r := h
  unfold LOk at h
  split at h
  · rename_i old new ws us len k
    unfold lOk at h
    obtain ⟨h1, h2⟩ := eval_test h
    simp only [Bool.and_eq_true, decide_eq_true_eq] at h1
    obtain ⟨⟨⟨rfl, h3⟩, h4⟩, h5⟩ := h1
    rw [ok_step]
    by_cases hk : k < (us.length : Int)
    · have hkn : k.toNat < us.length := by omega
      have ek : (k + 1).toNat = k.toNat + 1 := by omega
      rw [drop_lt hkn, drop_lt (show k.toNat < old.length by omega), okAll] at h2
      rw [show (decide (k < (us.length : Int))) = true from decide_eq_true hk, eval_ite, if_pos rfl, eval_ite, show (decide (0 ≤ k) && true) = true by simp [h3], if_pos rfl]
      rw [show (decide (0 ≤ k) && decide (k < (old.length : Int))) = true by simp [h3]; omega]
      rw [show ∀ (c b : Bool) (x y : Tr (Ex × List V × List Ob)), (Tr.ite c (Tr.ite true (Tr.ite b x y) .fail) x).eval = (Tr.ite c (Tr.ite b x y) x).eval from fun c b x y => by simp [eval_ite], ok_ite, wrap_i64 (show -9223372036854775808 ≤ k + 1 by omega) (by omega), eval_ite]
      cases hp : okV (us.getD k.toNat V.top) (old.getD k.toNat V.top) with
      | true =>
        rw [hp, Bool.true_and] at h2
        refine ⟨_, rfl, by show us.length - (k + 1).toNat < us.length - k.toNat; omega, ?_⟩
        show (lOk old new ws us us.length (k + 1)).eval = some r
        unfold lOk
        rw [ek, ← h2]
        simp [Tr.test, eval_ite, h4, h5, show (0 : Int) ≤ k + 1 by omega]
        omega
      | false =>
        rw [hp, Bool.false_and] at h2
        exact ⟨_, rfl, by simpa [rOk, eval_ite, eval_ret, LoopNext] using h2⟩
    · rw [List.drop_of_length_le (by omega)] at h2
      simp only [eval_ite, hk, decide_false]
      exact ⟨_, rfl, by simpa [okAll, rOk, eval_ret, eval_ite, LoopNext] using h2⟩
  · simp [Tr.eval] at h
theorem chk_two (t n : Int) : chkI t n = 0 ∨ chkI t n = 2 := by
  unfold chkI
  repeat' split
  all_goals first | exact .inl rfl | exact .inr rfl
theorem val_step (new ws is acc : List V) (len k : Int) : (loopStep E13 0 11 (loopB Try.f13 11) [.seq 48 new, .seq 44 ws, .full 44 0 0 acc.length, .seq 3 is, .int .i64 len, .int .i64 k] [.row false 0 44 acc]).eval =
  (Tr.ite (decide (k < len))
 (.ite (decide (0 ≤ k) && decide (k < ↑is.length))
  (.ite (decide (0 ≤ k) && decide (k < ↑new.length))
   (.ite (chkI (tyV (new.getD k.toNat V.top)) 0 != 0)
    (.ret ((Ex.ret, [V.full 44 0 0 0, V.int IntKind.i64 (chkI (tyV (new.getD k.toNat V.top)) 0), V.full 44 1 0 acc.length], [Ob.row false 0 44 [], Ob.row false 0 44 acc])))
    (.ite (decide ((is.getD k.toNat V.top).toI ≥ 0))
     (.ite (decide (0 ≤ (is.getD k.toNat V.top).toI) && decide ((is.getD k.toNat V.top).toI < ↑ws.length))
      (.ite (decide (acc.length + 1 ≤ 4294967296))
       (.ret ((Ex.normal,
         [V.seq 48 new, V.seq 44 ws, V.full 44 0 0 (acc ++ [V.agg [V.int IntKind.i64 (tA (ws.getD (is.getD k.toNat V.top).toI.toNat V.top)), V.int IntKind.i64 (nA (ws.getD (is.getD k.toNat V.top).toI.toNat V.top))]]).length,
           V.seq 3 is, V.int IntKind.i64 len, V.int IntKind.i64 (IntKind.i64.wrap (k + 1))],
         [Ob.row false 0 44 (acc ++ [V.agg [V.int IntKind.i64 (tA (ws.getD (is.getD k.toNat V.top).toI.toNat V.top)), V.int IntKind.i64 (nA (ws.getD (is.getD k.toNat V.top).toI.toNat V.top))]])])))
       .fail)
      .fail)
     (.ite (decide (acc.length + 1 ≤ 4294967296))
      (.ret ((Ex.normal,
        [V.seq 48 new, V.seq 44 ws, V.full 44 0 0 (acc ++ [V.agg [V.int IntKind.i64 (defT (tyV (new.getD k.toNat V.top))), V.int IntKind.i64 0]]).length,
          V.seq 3 is, V.int IntKind.i64 len, V.int IntKind.i64 (IntKind.i64.wrap (k + 1))],
        [Ob.row false 0 44 (acc ++ [V.agg [V.int IntKind.i64 (defT (tyV (new.getD k.toNat V.top))), V.int IntKind.i64 0]])])))
      .fail)))
   .fail)
  .fail)
 (.ret ((Ex.exit 2, [V.top, V.top, V.full 44 0 0 acc.length], [Ob.row false 0 44 acc])))).eval := by kernel_rfl
theorem inTop_at {n : Nat} {is : List V} (h : inTop n is = true) {k : Nat} (hk : k < is.length) : (is.getD k .top).toI < n := by
  have := List.all_eq_true.1 h _ (List.getElem_mem hk)
  rw [getD_lt hk]
  simpa using this
theorem val_law : LoopLaw E13 0 (loopB Try.f13 11) := by
  refine ⟨fun vs _ => (match vs with | [_, _, _, .seq _ vs, _, .int _ k] => vs.length - k.toNat | _ => 0), fun vs os r h => ?_⟩
  rw [show loopKey (loopB Try.f13 11) = 11 from by kernel_rfl] at h ⊢
  replace h : (LVal vs os).eval = some r := h
  unfold LVal at h
  split at h
  · rename_i new ws n is len k acc
    unfold lVal at h
    obtain ⟨h1, h2⟩ := eval_test h
    simp only [Bool.and_eq_true, decide_eq_true_eq] at h1
    obtain ⟨⟨⟨⟨⟨⟨rfl, h3⟩, h4⟩, h5⟩, h6⟩, h7⟩, rfl⟩ := h1
    rw [val_step]
    by_cases hk : k < (is.length : Int)
    · have hkn : k.toNat < is.length := by omega
      have ek : (k + 1).toNat = k.toNat + 1 := by omega
      have hw := inTop_at h6 hkn
      rw [drop_lt hkn, drop_lt (show k.toNat < new.length by omega), valRun] at h2
      simp only [eval_ite, hk, h3, decide_true, Bool.and_self, if_true, wrap_i64 (show -9223372036854775808 ≤ k + 1 by omega) (by omega), show k < (new.length : Int) by omega, show acc.length + 1 ≤ 4294967296 by omega]
      have go : ∀ x : V, (rVal (valRun ws (is.drop (k.toNat + 1)) (new.drop (k.toNat + 1)) (acc ++ [x]))).eval = some r → (lVal new ws is (acc ++ [x]) (acc ++ [x]).length is.length (k + 1)).eval = some r := fun x h => by
        unfold lVal
        rw [ek, ← h]
        simp [Tr.test, eval_ite, h4, h5, h6, show (0 : Int) ≤ k + 1 by omega, show (acc.length : Int) ≤ k by omega]
        omega
      rcases chk_two (tyV (new.getD k.toNat .top)) 0 with hp | hp
      · rw [hp] at h2 ⊢
        simp only [bne_self_eq_false, Bool.false_eq_true, if_false] at h2 ⊢
        by_cases hi : (is.getD k.toNat .top).toI ≥ 0
        · have e : valV ws (tyV (new.getD k.toNat .top)) (is.getD k.toNat .top).toI = .agg [.int .i64 (tA (ws.getD (is.getD k.toNat V.top).toI.toNat V.top)), .int .i64 (nA (ws.getD (is.getD k.toNat V.top).toI.toNat V.top))] := by unfold valV; rw [decide_eq_true hi]
          rw [e] at h2
          simp only [hi, hw, decide_true, if_true, show 0 ≤ (is.getD k.toNat .top).toI by omega, Bool.and_self]
          exact ⟨_, rfl, by show is.length - (k + 1).toNat < is.length - k.toNat; omega, go _ h2⟩
        · have e : valV ws (tyV (new.getD k.toNat .top)) (is.getD k.toNat .top).toI = .agg [.int .i64 (defT (tyV (new.getD k.toNat .top))), .int .i64 0] := by unfold valV; rw [decide_eq_false hi]
          rw [e] at h2
          simp only [hi, decide_false, if_false, Bool.false_eq_true]
          exact ⟨_, rfl, by show is.length - (k + 1).toNat < is.length - k.toNat; omega, go _ h2⟩
      · rw [hp] at h2 ⊢
        exact ⟨_, rfl, by simpa [rVal, eval_ret, eval_ite, LoopNext] using h2⟩
    · rw [List.drop_of_length_le (by omega)] at h2
      simp only [eval_ite, hk, decide_false]
      exact ⟨_, rfl, by simpa [valRun, rVal, eval_ret, eval_ite, LoopNext] using h2⟩
  · simp [Tr.eval] at h
def valsOf (old new ws : List V) : Option (List V) := match decide (ws.length = old.length) && okAll ws old with
  | true => (match valRun ws (slotsOf old new) new [] with | (true, l) => some l | (false, _) => none)
  | false => none
def rVals (o : Option (List V)) : Tr Out := .ite o.isSome (.ret (.ret (.tup [.seq 44 (o.getD []), .int .i64 0]) [])) (.ret (.ret (.tup [.seq 44 [], .int .i64 2]) []))
def mVals : Model
  | [.seq 48 old, .seq 48 new, .seq 44 ws], [] => .test (decide (old.length ≤ 65536) && decide (new.length ≤ 65536)) (rVals (valsOf old new ws))
  | _, _ => .fail
theorem vals_run (old new ws : List V) : (runF E13 false Try.f13 [.seq 48 old, .seq 48 new, .seq 44 ws] []).eval =
  (Tr.ite ((ws.length : Int) != old.length) (.ret (.ret (.tup [.seq 44 [], .int .i64 2]) []))
   (.ite (decide ((ws.length : Int) = ws.length) && decide ((0 : Int) ≤ 0) && decide (ws.length ≤ 65536) && decide (ws.length = old.length))
    (.ite (okAll (ws.drop (0 : Int).toNat) (old.drop (0 : Int).toNat))
     (.ite (decide (old.length ≤ 65536) && decide (new.length ≤ 65536))
      (.ite (decide (((slotsOf old new).length : Int) = (slotsOf old new).length) && decide ((0 : Int) ≤ 0) && decide ((slotsOf old new).length ≤ 65536) && decide ((slotsOf old new).length = new.length) && inTop ws.length (slotsOf old new) && decide ((([] : List V).length : Int) ≤ 0) && decide (0 = ([] : List V).length))
       (.ite (valRun ws ((slotsOf old new).drop (0 : Int).toNat) (new.drop (0 : Int).toNat) []).1
        (.ret (.ret (.tup [.seq 44 (valRun ws ((slotsOf old new).drop (0 : Int).toNat) (new.drop (0 : Int).toNat) []).2, .int .i64 0]) []))
        (.ret (.ret (.tup [.seq 44 [], .int .i64 2]) []))) .fail) .fail)
     (.ret (.ret (.tup [.seq 44 [], .int .i64 2]) []))) .fail)).eval := by kernel_rfl
theorem ix_top {p : V → Bool} {l : List V} : ixI (findIx p l 0) < l.length + 1 ∧ (l ≠ [] → ixI (findIx p l 0) < l.length) := by
  cases h : findIx p l 0 with
  | none => exact ⟨by simp [ixI]; omega, fun _ => by simp [ixI]; omega⟩
  | some k =>
    have := (findIx_lt h).2
    exact ⟨by simp [ixI]; omega, fun _ => by simp [ixI]; omega⟩
theorem slots_top (old new : List V) : inTop old.length (slotsOf old new) = true := by
  unfold inTop slotsOf
  rw [List.all_map, List.all_eq_true]
  intro u _
  show decide (ixI (findIx (sameVar u) old 0) < old.length) = true
  rw [decide_eq_true_eq]
  cases h : findIx (sameVar u) old 0 with
  | none => simp [ixI]; omega
  | some k =>
    have := (findIx_lt h).2
    simp [ixI]; omega
theorem slots_len (old new : List V) : (slotsOf old new).length = new.length := by simp [slotsOf]
theorem vals_holds : Holds T tG Try.prog 13 mVals := by
  refine holds_of 13 C13 ok13 L13 (fn := Try.f13) (c := (Try.f13.body).getD .skip) (by kernel_rfl) (by kernel_rfl) (by kernel_rfl) (by kernel_rfl) mVals ?_
  intro args objs out h
  unfold mVals at h
  split at h
  · rename_i old new ws
    obtain ⟨h1, h2⟩ := eval_test h
    simp only [Bool.and_eq_true, decide_eq_true_eq] at h1
    refine ⟨loops_two (by kernel_rfl) ok_law val_law, ?_⟩
    show (runF E13 false Try.f13 _ _).eval = _
    rw [vals_run, ← h2]
    unfold valsOf
    by_cases hl : ws.length = old.length
    · have hl' : ((old.length : Int) != old.length) = false := by simp
      have hwo : inTop old.length (slotsOf old new) = true := slots_top old new
      simp only [eval_ite, hl', hwo, h1.1, h1.2, slots_len, decide_true, Bool.and_self, Bool.true_and, if_true, Bool.false_eq_true, if_false, Int.toNat_zero, List.drop_zero, show ((0 : Int) ≤ 0) from Int.le_refl 0, List.length_nil, show (((0 : Nat) : Int) ≤ 0) by omega, show ws.length ≤ 65536 by omega, hl]
      cases okAll ws old with
      | false => rfl
      | true =>
        rcases valRun ws (slotsOf old new) new [] with ⟨b, l⟩
        cases b <;> rfl
    · have hl' : ((ws.length : Int) != old.length) = true := by simp; omega
      simp only [eval_ite, hl', decide_eq_false hl, if_true, Bool.false_and]
      rfl
  · simp [Tr.eval] at h

/- Same, ints. -/
def eqRun (p : V → V → Bool) : List V → List V → Bool
  | [], _ => true
  | a :: r, b :: s => p a b && eqRun p r s
  | _ :: _, [] => false
def sameA (a b : V) : Bool := tA a == tA b && (nA a == nA b && true)
def rEq (b : Bool) : Tr (Ex × List V × List Ob) := .ite b (.ret (.exit 0, [.top], [])) (.ret (.ret, [.bool false], []))
def lEq (p : V → V → Bool) (us ws : List V) (k : Int) : Tr (Ex × List V × List Ob) :=
  .test (decide (0 ≤ k) && decide (us.length ≤ 65536) && decide (us.length = ws.length)) (rEq (eqRun p (us.drop k.toNat) (ws.drop k.toNat)))
def LSame : List V → List Ob → Tr (Ex × List V × List Ob)
  | [.seq 44 us, .seq 44 ws, .int .i64 k], [] => lEq sameA us ws k
  | _, _ => .fail
def E18 : Env := EF 18 [] fun key => (match key with | 4 => LSame | _ => fun _ _ => .fail)
theorem same_step (us ws : List V) (k : Int) : (loopStep E18 0 4 (loopB Try.f18 4) [.seq 44 us, .seq 44 ws, .int .i64 k] []).eval =
  (Tr.ite (decide (k < ↑us.length))
 (.ite (decide (0 ≤ k) && decide (k < ↑us.length))
  (.ite (decide (0 ≤ k) && decide (k < ↑ws.length))
   (.ite (!sameA (us.getD k.toNat V.top) (ws.getD k.toNat V.top))
    (.ret ((Ex.ret, [V.bool false], [])))
    (.ret ((Ex.normal, [V.seq 44 us, V.seq 44 ws, V.int IntKind.i64 (IntKind.i64.wrap (k + 1))], []))))
   .fail)
  .fail)
 (.ret ((Ex.exit 0, [V.top], [])))).eval := by kernel_rfl
theorem same_law : LoopLaw E18 0 (loopB Try.f18 4) := by
  refine ⟨fun vs _ => (match vs with | [.seq _ vs, _, .int _ k] => vs.length - k.toNat | _ => 0), fun vs os r h => ?_⟩
  rw [show loopKey (loopB Try.f18 4) = 4 from by kernel_rfl] at h ⊢
  replace h : (LSame vs os).eval = some r := h
  unfold LSame at h
  split at h
  · rename_i us ws k
    unfold lEq at h
    obtain ⟨h1, h2⟩ := eval_test h
    simp only [Bool.and_eq_true, decide_eq_true_eq] at h1
    obtain ⟨⟨h3, h4⟩, h5⟩ := h1
    rw [same_step]
    by_cases hk : k < (us.length : Int)
    · have hkn : k.toNat < us.length := by omega
      have ek : (k + 1).toNat = k.toNat + 1 := by omega
      rw [drop_lt hkn, drop_lt (show k.toNat < ws.length by omega), eqRun] at h2
      simp only [eval_ite, hk, h3, decide_true, Bool.and_self, if_true, wrap_i64 (show -9223372036854775808 ≤ k + 1 by omega) (by omega), show k < (ws.length : Int) by omega]
      cases hp : sameA (us.getD k.toNat .top) (ws.getD k.toNat .top) with
      | true =>
        rw [hp] at h2
        refine ⟨_, rfl, by show us.length - (k + 1).toNat < us.length - k.toNat; omega, ?_⟩
        show (lEq sameA us ws (k + 1)).eval = some r
        unfold lEq
        rw [ek, ← h2]
        simp [Tr.test, eval_ite, h4, h5, show (0 : Int) ≤ k + 1 by omega]
        omega
      | false =>
        rw [hp] at h2
        exact ⟨_, rfl, by simpa [rEq, eval_ret, eval_ite, LoopNext] using h2⟩
    · rw [List.drop_of_length_le (by omega)] at h2
      simp only [eval_ite, hk, decide_false]
      exact ⟨_, rfl, by simpa [eqRun, rEq, eval_ret, eval_ite, LoopNext] using h2⟩
  · simp [Tr.eval] at h
def mEq (t : TypeId) (p : V → V → Bool) : Model
  | [.seq t1 us, .seq t2 ws], [] => .test (Nat.beq t1 t && Nat.beq t2 t && decide (us.length ≤ 65536)) (.ret (.ret (.bool (decide (us.length = ws.length) && eqRun p us ws)) []))
  | _, _ => .fail
theorem same_run (us ws : List V) : (runF E18 false Try.f18 [.seq 44 us, .seq 44 ws] []).eval =
  (Tr.ite ((us.length : Int) != ws.length) (.ret (.ret (.bool false) []))
   (.ite (decide ((0 : Int) ≤ 0) && decide (us.length ≤ 65536) && decide (us.length = ws.length)) (.ite (eqRun sameA (us.drop (0 : Int).toNat) (ws.drop (0 : Int).toNat)) (.ret (.ret (.bool true) [])) (.ret (.ret (.bool false) []))) .fail)).eval := by kernel_rfl
theorem same_holds : Holds T tG Try.prog 18 (mEq 44 sameA) := by
  refine holds_of 18 [] ok_nil (fun key => (match key with | 4 => LSame | _ => fun _ _ => .fail)) (fn := Try.f18) (c := (Try.f18.body).getD .skip) (by kernel_rfl) (by kernel_rfl) (by kernel_rfl) (by kernel_rfl) (mEq 44 sameA) ?_
  intro args objs out h
  unfold mEq at h
  split at h
  · rename_i t1 us t2 ws
    obtain ⟨h1, h2⟩ := eval_test h
    simp only [Bool.and_eq_true, decide_eq_true_eq] at h1
    obtain ⟨⟨g1, g2⟩, h1⟩ := h1
    obtain rfl := Nat.eq_of_beq_eq_true g1
    obtain rfl := Nat.eq_of_beq_eq_true g2
    refine ⟨loops_one (by kernel_rfl) same_law, ?_⟩
    show (runF E18 false Try.f18 _ _).eval = _
    rw [same_run, ← h2]
    by_cases hl : us.length = ws.length
    · have hl' : ((ws.length : Int) != ws.length) = false := by simp
      simp only [eval_ite, hl', hl, show ws.length ≤ 65536 by omega, decide_true, Bool.and_self, Bool.true_and, if_true, Bool.false_eq_true, if_false, Int.toNat_zero, List.drop_zero, show ((0 : Int) ≤ 0) from Int.le_refl 0]
      cases eqRun sameA us ws <;> rfl
    · have hl' : ((us.length : Int) != ws.length) = true := by simp; omega
      simp only [eval_ite, hl', decide_eq_false hl, if_true, Bool.false_and]
  · simp [Tr.eval] at h
def sameI (a b : V) : Bool := a.toI == b.toI
def LInts : List V → List Ob → Tr (Ex × List V × List Ob)
  | [.seq 3 us, .seq 3 ws, .int .i64 k], [] => lEq sameI us ws k
  | _, _ => .fail
def E15 : Env := EF 15 [] fun key => (match key with | 4 => LInts | _ => fun _ _ => .fail)
theorem ints_step (us ws : List V) (k : Int) : (loopStep E15 0 4 (loopB Try.f15 4) [.seq 3 us, .seq 3 ws, .int .i64 k] []).eval =
  (Tr.ite (decide (k < ↑us.length))
 (.ite (decide (0 ≤ k) && decide (k < ↑us.length))
  (.ite (decide (0 ≤ k) && decide (k < ↑ws.length))
   (.ite (!sameI (us.getD k.toNat V.top) (ws.getD k.toNat V.top))
    (.ret ((Ex.ret, [V.bool false], [])))
    (.ret ((Ex.normal, [V.seq 3 us, V.seq 3 ws, V.int IntKind.i64 (IntKind.i64.wrap (k + 1))], []))))
   .fail)
  .fail)
 (.ret ((Ex.exit 0, [V.top], [])))).eval := by kernel_rfl
theorem ints_law : LoopLaw E15 0 (loopB Try.f15 4) := by
  refine ⟨fun vs _ => (match vs with | [.seq _ vs, _, .int _ k] => vs.length - k.toNat | _ => 0), fun vs os r h => ?_⟩
  rw [show loopKey (loopB Try.f15 4) = 4 from by kernel_rfl] at h ⊢
  replace h : (LInts vs os).eval = some r := h
  unfold LInts at h
  split at h
  · rename_i us ws k
    unfold lEq at h
    obtain ⟨h1, h2⟩ := eval_test h
    simp only [Bool.and_eq_true, decide_eq_true_eq] at h1
    obtain ⟨⟨h3, h4⟩, h5⟩ := h1
    rw [ints_step]
    by_cases hk : k < (us.length : Int)
    · have hkn : k.toNat < us.length := by omega
      have ek : (k + 1).toNat = k.toNat + 1 := by omega
      rw [drop_lt hkn, drop_lt (show k.toNat < ws.length by omega), eqRun] at h2
      simp only [eval_ite, hk, h3, decide_true, Bool.and_self, if_true, wrap_i64 (show -9223372036854775808 ≤ k + 1 by omega) (by omega), show k < (ws.length : Int) by omega]
      cases hp : sameI (us.getD k.toNat .top) (ws.getD k.toNat .top) with
      | true =>
        rw [hp] at h2
        refine ⟨_, rfl, by show us.length - (k + 1).toNat < us.length - k.toNat; omega, ?_⟩
        show (lEq sameI us ws (k + 1)).eval = some r
        unfold lEq
        rw [ek, ← h2]
        simp [Tr.test, eval_ite, h4, h5, show (0 : Int) ≤ k + 1 by omega]
        omega
      | false =>
        rw [hp] at h2
        exact ⟨_, rfl, by simpa [rEq, eval_ret, eval_ite, LoopNext] using h2⟩
    · rw [List.drop_of_length_le (by omega)] at h2
      simp only [eval_ite, hk, decide_false]
      exact ⟨_, rfl, by simpa [eqRun, rEq, eval_ret, eval_ite, LoopNext] using h2⟩
  · simp [Tr.eval] at h
theorem ints_run (us ws : List V) : (runF E15 false Try.f15 [.seq 3 us, .seq 3 ws] []).eval =
  (Tr.ite ((us.length : Int) != ws.length) (.ret (.ret (.bool false) []))
   (.ite (decide ((0 : Int) ≤ 0) && decide (us.length ≤ 65536) && decide (us.length = ws.length)) (.ite (eqRun sameI (us.drop (0 : Int).toNat) (ws.drop (0 : Int).toNat)) (.ret (.ret (.bool true) [])) (.ret (.ret (.bool false) []))) .fail)).eval := by kernel_rfl
theorem ints_holds : Holds T tG Try.prog 15 (mEq 3 sameI) := by
  refine holds_of 15 [] ok_nil (fun key => (match key with | 4 => LInts | _ => fun _ _ => .fail)) (fn := Try.f15) (c := (Try.f15.body).getD .skip) (by kernel_rfl) (by kernel_rfl) (by kernel_rfl) (by kernel_rfl) (mEq 3 sameI) ?_
  intro args objs out h
  unfold mEq at h
  split at h
  · rename_i t1 us t2 ws
    obtain ⟨h1, h2⟩ := eval_test h
    simp only [Bool.and_eq_true, decide_eq_true_eq] at h1
    obtain ⟨⟨g1, g2⟩, h1⟩ := h1
    obtain rfl := Nat.eq_of_beq_eq_true g1
    obtain rfl := Nat.eq_of_beq_eq_true g2
    refine ⟨loops_one (by kernel_rfl) ints_law, ?_⟩
    show (runF E15 false Try.f15 _ _).eval = _
    rw [ints_run, ← h2]
    by_cases hl : us.length = ws.length
    · have hl' : ((ws.length : Int) != ws.length) = false := by simp
      simp only [eval_ite, hl', hl, show ws.length ≤ 65536 by omega, decide_true, Bool.and_self, Bool.true_and, if_true, Bool.false_eq_true, if_false, Int.toNat_zero, List.drop_zero, show ((0 : Int) ≤ 0) from Int.le_refl 0]
      cases eqRun sameI us ws <;> rfl
    · have hl' : ((us.length : Int) != ws.length) = true := by simp; omega
      simp only [eval_ite, hl', decide_eq_false hl, if_true, Bool.false_and]
  · simp [Tr.eval] at h
end Go.Proofs.Ytecplbjggbelbaa
