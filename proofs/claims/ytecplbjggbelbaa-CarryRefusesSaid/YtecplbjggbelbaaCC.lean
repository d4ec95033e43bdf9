/- Carry: Changed, Slots. -/
import Derived.Test.YtecplbjggbelbaaCB
namespace Go.Proofs.Ytecplbjggbelbaa
open Go Go.AH
set_option maxRecDepth 100000
theorem loops_two {E : Env} {m : Nat} {c a b : Code} (h : loopsIn c = [a, b]) (ha : LoopLaw E m a) (hb : LoopLaw E m b) : Loops E m c := loops_of c (by
  rw [h]
  intro x hx
  rcases List.mem_cons.1 hx with rfl | hx
  · exact ha
  · rw [List.mem_singleton.1 hx]; exact hb)

/-- Whether a variable has another type in the new list. -/
def isChg (new : List V) (v : V) : Bool := match findIx (isNm (nmV v)) new 0 with | some k => tyV (new.getD k .top) != tyV v | none => false
def chgL (old new : List V) : List V → Option (List UInt8)
  | [] => none
  | i :: r => (match isChg new (old.getD i.toI.toNat .top) with | true => some (nmV (old.getD i.toI.toNat .top)) | false => chgL old new r)
def inRange (n : Nat) (is : List V) : Bool := is.all fun i => decide (0 ≤ i.toI) && decide (i.toI < n)
def rChg (o : Option (List UInt8)) : Tr (Ex × List V × List Ob) := .ite o.isSome (.ret (.ret, [.str (o.getD []), .bool true], [])) (.ret (.exit 0, [.top, .top], []))
def lChg (old new is : List V) (len k : Int) : Tr (Ex × List V × List Ob) :=
  .test (decide (len = is.length) && decide (0 ≤ k) && decide (is.length ≤ 65536) && decide (new.length ≤ 65536) && inRange old.length is) (rChg (chgL old new (is.drop k.toNat)))
def LChg : List V → List Ob → Tr (Ex × List V × List Ob)
  | [.seq 48 old, .seq 48 new, .seq 3 is, .int .i64 len, .int .i64 k], [] => lChg old new is len k
  | _, _ => .fail
def E10 : Env := EF 10 [(23, mFind), (26, mIn)] fun key => (match key with | 2 => LChg | _ => fun _ _ => .fail)
theorem chg_step (old new is : List V) (len k : Int) : (loopStep E10 0 2 (loopB Try.f10 2) [.seq 48 old, .seq 48 new, .seq 3 is, .int .i64 len, .int .i64 k] []).eval =
  (Tr.ite (decide (k < len))
 (.ite (decide (0 ≤ k) && decide (k < ↑is.length))
  (.ite (decide (0 ≤ (is.getD k.toNat V.top).toI) && decide ((is.getD k.toNat V.top).toI < ↑old.length))
   (.ite (decide (new.length ≤ lim))
   (.ite (findIx (isNm (nmV (old.getD (is.getD k.toNat V.top).toI.toNat V.top))) new 0).isSome
    (.ite (decide ((0 : Int) ≤ ((findIx (isNm (nmV (old.getD (is.getD k.toNat V.top).toI.toNat V.top))) new 0).getD 0 : Nat)) && decide ((((findIx (isNm (nmV (old.getD (is.getD k.toNat V.top).toI.toNat V.top))) new 0).getD 0 : Nat) : Int) < new.length))
     (.ite (tyV (new.getD (((findIx (isNm (nmV (old.getD (is.getD k.toNat V.top).toI.toNat V.top))) new 0).getD 0 : Nat) : Int).toNat V.top) != tyV (old.getD (is.getD k.toNat V.top).toI.toNat V.top))
      (.ret ((Ex.ret, [V.str (nmV (old.getD (is.getD k.toNat V.top).toI.toNat V.top)), V.bool true], [])))
      (.ret ((Ex.normal, [V.seq 48 old, V.seq 48 new, V.seq 3 is, V.int IntKind.i64 len, V.int IntKind.i64 (IntKind.i64.wrap (k + 1))], []))))
     .fail)
    (.ret ((Ex.normal, [V.seq 48 old, V.seq 48 new, V.seq 3 is, V.int IntKind.i64 len, V.int IntKind.i64 (IntKind.i64.wrap (k + 1))], []))))
    .fail)
   .fail)
  .fail)
 (.ret ((Ex.exit 0, [V.top, V.top], [])))).eval := by kernel_rfl
theorem findIx_lt {p : V → Bool} : ∀ {l : List V} {i k : Nat}, findIx p l i = some k → i ≤ k ∧ k < i + l.length
  | [], _, _, h => by cases h
  | v :: r, i, k, h => by
    unfold findIx at h
    split at h
    · cases h; simp
    · have := findIx_lt h
      simp only [List.length_cons]
      omega
theorem inRange_at {n : Nat} {is : List V} (h : inRange n is = true) {k : Nat} (hk : k < is.length) : 0 ≤ (is.getD k .top).toI ∧ (is.getD k .top).toI < n := by
  have := List.all_eq_true.1 h _ (List.getElem_mem hk)
  rw [getD_lt hk]
  simpa using this
theorem chg_law : LoopLaw E10 0 (loopB Try.f10 2) := by
  refine ⟨fun vs _ => (match vs with | [_, _, .seq _ vs, _, .int _ k] => vs.length - k.toNat | _ => 0), fun vs os r h => ?_⟩
  rw [show loopKey (loopB Try.f10 2) = 2 from by kernel_rfl] at h ⊢
  replace h : (LChg vs os).eval = some r := h
  unfold LChg at h
  split at h
  · rename_i old new is len k
    unfold lChg at h
    obtain ⟨h1, h2⟩ := eval_test h
    simp only [Bool.and_eq_true, decide_eq_true_eq] at h1
    obtain ⟨⟨⟨⟨rfl, h3⟩, h4⟩, h5⟩, h6⟩ := h1
    rw [chg_step]
    by_cases hk : k < (is.length : Int)
    · have hkn : k.toNat < is.length := by omega
      have ek : (k + 1).toNat = k.toNat + 1 := by omega
      obtain ⟨g1, g2⟩ := inRange_at h6 hkn
      rw [drop_lt hkn, chgL] at h2
      simp only [eval_ite, hk, h3, g1, g2, lim, show new.length ≤ 4294967296 by omega, decide_true, Bool.and_self, if_true, wrap_i64 (show -9223372036854775808 ≤ k + 1 by omega) (by omega)]
      have nx : (chgL old new (is.drop (k.toNat + 1))) = chgL old new (is.drop (k + 1).toNat) := by rw [ek]
      have go : (rChg (chgL old new (is.drop (k.toNat + 1)))).eval = some r → (lChg old new is is.length (k + 1)).eval = some r := fun h => by
        unfold lChg
        rw [← nx]
        simpa [Tr.test, eval_ite, h4, h5, h6, show (0 : Int) ≤ k + 1 by omega] using h
      obtain ⟨v, hv⟩ : ∃ v, v = old.getD (is.getD k.toNat V.top).toI.toNat V.top := ⟨_, rfl⟩
      rw [← hv] at h2 ⊢
      unfold isChg at h2
      cases hf : findIx (isNm (nmV v)) new 0 with
      | none =>
        rw [hf] at h2
        exact ⟨_, rfl, by show is.length - (k + 1).toNat < is.length - k.toNat; omega, go h2⟩
      | some j =>
        have hj := (findIx_lt hf).2
        rw [hf] at h2
        simp only [Option.isSome_some, Option.getD_some, if_true, Int.toNat_natCast, show ((0 : Int) ≤ (j : Int)) by omega, show ((j : Int) < new.length) by omega, decide_true, Bool.and_self]
        simp only at h2
        by_cases hq : (tyV (new.getD j .top) != tyV v) = true
        · rw [hq] at h2
          rw [if_pos hq]
          exact ⟨_, rfl, by simpa [rChg, eval_ret, eval_ite, LoopNext] using h2⟩
        · rw [Bool.eq_false_iff.2 hq] at h2
          rw [if_neg hq]
          exact ⟨_, rfl, by show is.length - (k + 1).toNat < is.length - k.toNat; omega, go h2⟩
    · rw [List.drop_of_length_le (by omega)] at h2
      simp only [eval_ite, hk, decide_false]
      exact ⟨_, rfl, by simpa [chgL, rChg, eval_ret, eval_ite, LoopNext] using h2⟩
  · simp [Tr.eval] at h
theorem inFrom_range (p : Int) (n : Nat) : ∀ (l : List V) (k : Nat), k + l.length ≤ n → inRange n (inFrom p l k) = true ∧ (inFrom p l k).length ≤ l.length
  | [], _, _ => ⟨rfl, Nat.le_refl _⟩
  | v :: r, k, h => by
    simp only [List.length_cons] at h
    obtain ⟨h1, h2⟩ := inFrom_range p n r (k + 1) (by omega)
    unfold inFrom
    split
    · refine ⟨?_, by simp only [List.length_cons]; omega⟩
      unfold inRange at *
      rw [List.all_cons, h1]
      simp [V.toI]
      omega
    · exact ⟨h1, by simp only [List.length_cons]; omega⟩
def chgOf (old new : List V) (p : Int) : Option (List UInt8) := chgL old new (inFrom p old 0)
def mChg : Model
  | [.seq 48 old, .seq 48 new, .int .i64 p], [] => .test (decide (old.length ≤ 65536) && decide (new.length ≤ 65536)) (.ret (.ret (.tup [.str ((chgOf old new p).getD []), .bool (chgOf old new p).isSome]) []))
  | _, _ => .fail
theorem chg_run (old new : List V) (p : Int) : (runF E10 false Try.f10 [.seq 48 old, .seq 48 new, .int .i64 p] []).eval =
  (Tr.ite (decide (old.length ≤ 65536)) (.ite (decide (((inFrom p old 0).length : Int) = (inFrom p old 0).length) && decide ((0 : Int) ≤ 0) && decide ((inFrom p old 0).length ≤ 65536) && decide (new.length ≤ 65536) && inRange old.length (inFrom p old 0))
    (.ite (chgL old new ((inFrom p old 0).drop (0 : Int).toNat)).isSome (.ret (.ret (.tup [.str ((chgL old new ((inFrom p old 0).drop (0 : Int).toNat)).getD []), .bool true]) [])) (.ret (.ret (.tup [.str [], .bool false]) []))) .fail) .fail).eval := by kernel_rfl
theorem chg_holds : Holds T tG Try.prog 10 mChg := by
  refine holds_of 10 [(23, mFind), (26, mIn)] (ok_cons find_holds (ok_cons in_holds ok_nil)) (fun key => (match key with | 2 => LChg | _ => fun _ _ => .fail)) (fn := Try.f10) (c := (Try.f10.body).getD .skip) (by kernel_rfl) (by kernel_rfl) (by kernel_rfl) (by kernel_rfl) mChg ?_
  intro args objs out h
  unfold mChg at h
  split at h
  · rename_i old new p
    obtain ⟨h1, h2⟩ := eval_test h
    simp only [Bool.and_eq_true, decide_eq_true_eq] at h1
    refine ⟨loops_one (by kernel_rfl) chg_law, ?_⟩
    show (runF E10 false Try.f10 _ _).eval = _
    obtain ⟨g1, g2⟩ := inFrom_range p old.length old 0 (by omega)
    rw [chg_run, ← h2]
    simp only [eval_ite, h1.1, h1.2, g1, show (inFrom p old 0).length ≤ 65536 by omega, decide_true, Bool.and_self, if_true, Int.toNat_zero, List.drop_zero, show ((0 : Int) ≤ 0) from Int.le_refl 0]
    unfold chgOf
    cases chgL old new (inFrom p old 0) <;> rfl
  · simp [Tr.eval] at h

/- Slots. -/
def TK : Ty := { size := 2, agg := true, bytes := 24, kinds := [Kd.str, Kd.int IntKind.i64], d := TD.struct [(0, 1, false), (1, 1, false)], eq := true }
def kV (v : V) : V := .agg [.str (nmV v), .int .i64 (tyV v)]
def sameVar (u v : V) : Bool := nmV u == nmV v && tyV u == tyV v
theorem keySame_kV (u v : V) : keySame TK (kV u) (kV v) = sameVar u v := by
  show (nmV u == nmV v && (tyV u == tyV v && true)) = _
  rw [Bool.and_true]
  rfl
def mkD : List V → Nat → List V → List V → List V × List V
  | [], _, ks, xs => (ks, xs)
  | v :: r, k, ks, xs => (match (dictFind TK (kV v) ks xs).isSome with
    | true => mkD r (k + 1) ks xs
    | false => mkD r (k + 1) (dictPut TK (kV v) (.int .i64 k) ks xs).1 (dictPut TK (kV v) (.int .i64 k) ks xs).2)
def isKeys (ks : List V) : Prop := ∀ k ∈ ks, ∃ v, k = kV v
theorem put_find : ∀ (ks xs : List V) (v : V) (x : V), isKeys ks → ks.length = xs.length → dictFind TK (kV v) ks xs = none →
    (dictPut TK (kV v) x ks xs) = (ks ++ [kV v], xs ++ [x])
  | [], [], v, x, _, _, _ => rfl
  | [], _ :: _, v, x, _, h, _ => by simp at h
  | _ :: _, [], v, x, _, h, _ => by simp at h
  | k :: ks, y :: xs, v, x, hk, hl, hf => by
    rw [dictFind] at hf
    rw [dictPut]
    cases hs : keySame TK (kV v) k with
    | true => rw [hs] at hf; cases hf
    | false =>
      rw [hs] at hf
      have ih := put_find ks xs v x (fun k hk' => hk k (by simp [hk'])) (by simpa using hl) hf
      simp only [ih, List.cons_append]
theorem find_app : ∀ (ks xs : List V) (u v : V) (x : V), ks.length = xs.length →
    dictFind TK (kV u) (ks ++ [kV v]) (xs ++ [x]) = (match dictFind TK (kV u) ks xs with | some y => some y | none => (match sameVar u v with | true => some x | false => none))
  | [], [], u, v, x, _ => by
    show (match keySame TK (kV u) (kV v) with | true => some x | false => none) = _
    rw [keySame_kV]
    rfl
  | [], _ :: _, _, _, _, h => by simp at h
  | _ :: _, [], _, _, _, h => by simp at h
  | k :: ks, y :: xs, u, v, x, h => by
    simp only [List.cons_append, dictFind]
    cases keySame TK (kV u) k with
    | true => rfl
    | false => exact find_app ks xs u v x (by simpa using h)
theorem find_mkD (u : V) : ∀ (l : List V) (i : Nat) (ks xs : List V), isKeys ks → ks.length = xs.length →
    (dictFind TK (kV u) (mkD l i ks xs).1 (mkD l i ks xs).2) = (match dictFind TK (kV u) ks xs with | some y => some y | none => (findIx (sameVar u) l i).map fun k => V.int .i64 k)
  | [], _, ks, xs, _, _ => by
    show dictFind TK (kV u) ks xs = _
    cases dictFind TK (kV u) ks xs <;> rfl
  | v :: r, i, ks, xs, hk, hl => by
    unfold mkD
    cases hf : dictFind TK (kV v) ks xs with
    | some y =>
      show dictFind TK (kV u) (mkD r (i + 1) ks xs).1 (mkD r (i + 1) ks xs).2 = _
      rw [find_mkD u r (i + 1) ks xs hk hl]
      cases hu : dictFind TK (kV u) ks xs with
      | some z => rfl
      | none =>
        have : sameVar u v = false := by
          cases hs : sameVar u v with
          | false => rfl
          | true =>
            have e : kV u = kV v := by
              simp only [sameVar, Bool.and_eq_true, beq_iff_eq] at hs
              unfold kV
              rw [hs.1, hs.2]
            rw [e, hf] at hu
            cases hu
        simp only [findIx, this]
    | none =>
      show dictFind TK (kV u) (mkD r (i + 1) (dictPut TK (kV v) (.int .i64 i) ks xs).1 (dictPut TK (kV v) (.int .i64 i) ks xs).2).1 (mkD r (i + 1) (dictPut TK (kV v) (.int .i64 i) ks xs).1 (dictPut TK (kV v) (.int .i64 i) ks xs).2).2 = _
      rw [put_find ks xs v _ hk hl hf, find_mkD u r (i + 1) _ _ (fun k hk' => by
        rcases List.mem_append.1 hk' with h | h
        · exact hk k h
        · exact ⟨v, List.mem_singleton.1 h⟩) (by simp [hl]), find_app ks xs u v _ hl]
      cases dictFind TK (kV u) ks xs with
      | some z => rfl
      | none =>
        simp only [findIx]
        cases sameVar u v <;> rfl
def rD (new : List V) (d : List V × List V) : Tr (Ex × List V × List Ob) := .ret (.exit 0, [.seq 48 new, .mref 0], [.dict false 66 d.1 d.2])
def lD (new vs ks xs : List V) (len k : Int) : Tr (Ex × List V × List Ob) :=
  .test (decide (len = vs.length) && decide (0 ≤ k) && decide (vs.length ≤ 65536)) (rD new (mkD (vs.drop k.toNat) k.toNat ks xs))
def dOf (ks xs : List V) (u : V) : V := match (dictFind TK (kV u) ks xs).isSome with | true => .int .i64 ((dictFind TK (kV u) ks xs).getD .top).toI | false => .int .i64 (-1)
def rSl (o : List V) : Tr (Ex × List V × List Ob) := .ret (.exit 2, [.full 3 0 0 o.length], [.row false 0 3 o])
def lSl (vs ks xs acc : List V) (n : Nat) (len k : Int) : Tr (Ex × List V × List Ob) :=
  .test (decide (len = vs.length) && decide (0 ≤ k) && decide (vs.length ≤ 65536) && decide (acc.length ≤ k) && decide (k ≤ len) && decide (n = acc.length)) (rSl (acc ++ (vs.drop k.toNat).map (dOf ks xs)))
def LD : List V → List Ob → Tr (Ex × List V × List Ob)
  | [.seq 48 new, .mref 0, .seq 48 vs, .int .i64 len, .int .i64 k], [.dict false 66 ks xs] => lD new vs ks xs len k
  | _, _ => .fail
def LSl : List V → List Ob → Tr (Ex × List V × List Ob)
  | [.mref 0, .full 3 1 0 n, .seq 48 vs, .int .i64 len, .int .i64 k], [.dict false 66 ks xs, .row false 0 3 acc] => lSl vs ks xs acc n len k
  | _, _ => .fail
def L16 : LM := fun key => (match key with | 3 => LD | 11 => LSl | _ => fun _ _ => .fail)
def E16 : Env := EF 16 [] L16
theorem d_step (new vs ks xs : List V) (len k : Int) : (loopStep E16 0 3 (loopB Try.f16 3) [.seq 48 new, .mref 0, .seq 48 vs, .int .i64 len, .int .i64 k] [.dict false 66 ks xs]).eval =
  (Tr.ite (decide (k < len))
 (.ite (decide (0 ≤ k) && decide (k < ↑vs.length))
  (.ite (dictFind TK (kV (vs.getD k.toNat V.top)) ks xs).isSome
   (.ret ((Ex.normal, [V.seq 48 new, V.mref 0, V.seq 48 vs, V.int IntKind.i64 len, V.int IntKind.i64 (IntKind.i64.wrap (k + 1))], [Ob.dict false 66 ks xs])))
   (.ret ((Ex.normal, [V.seq 48 new, V.mref 0, V.seq 48 vs, V.int IntKind.i64 len, V.int IntKind.i64 (IntKind.i64.wrap (k + 1))],
     [Ob.dict false 66 (dictPut TK (kV (vs.getD k.toNat V.top)) (V.int IntKind.i64 k) ks xs).1 (dictPut TK (kV (vs.getD k.toNat V.top)) (V.int IntKind.i64 k) ks xs).2]))))
  .fail)
 (.ret ((Ex.exit 0, [V.seq 48 new, V.mref 0], [Ob.dict false 66 ks xs])))).eval := by kernel_rfl
theorem d_law : LoopLaw E16 0 (loopB Try.f16 3) := by
  refine ⟨fun vs _ => (match vs with | [_, _, .seq _ vs, _, .int _ k] => vs.length - k.toNat | _ => 0), fun vs os r h => ?_⟩
  rw [show loopKey (loopB Try.f16 3) = 3 from by kernel_rfl] at h ⊢
  replace h : (LD vs os).eval = some r := h
  unfold LD at h
  split at h
  · rename_i new vs len k ks xs
    unfold lD at h
    obtain ⟨h1, h2⟩ := eval_test h
    simp only [Bool.and_eq_true, decide_eq_true_eq] at h1
    obtain ⟨⟨rfl, h3⟩, h4⟩ := h1
    rw [d_step]
    by_cases hk : k < (vs.length : Int)
    · have hkn : k.toNat < vs.length := by omega
      have ek : (k + 1).toNat = k.toNat + 1 := by omega
      have e : (k.toNat : Int) = k := Int.toNat_of_nonneg h3
      rw [drop_lt hkn, mkD, e] at h2
      simp only [eval_ite, hk, h3, decide_true, Bool.and_self, if_true, wrap_i64 (show -9223372036854775808 ≤ k + 1 by omega) (by omega)]
      cases hp : (dictFind TK (kV (vs.getD k.toNat V.top)) ks xs).isSome with
      | true =>
        rw [hp] at h2
        refine ⟨_, rfl, by show vs.length - (k + 1).toNat < vs.length - k.toNat; omega, ?_⟩
        show (lD new vs ks xs vs.length (k + 1)).eval = some r
        unfold lD
        rw [ek, ← h2]
        simp [Tr.test, eval_ite, h4, show (0 : Int) ≤ k + 1 by omega]
      | false =>
        rw [hp] at h2
        refine ⟨_, rfl, by show vs.length - (k + 1).toNat < vs.length - k.toNat; omega, ?_⟩
        show (lD new vs _ _ vs.length (k + 1)).eval = some r
        unfold lD
        rw [ek, ← h2]
        simp [Tr.test, eval_ite, h4, show (0 : Int) ≤ k + 1 by omega]
    · rw [List.drop_of_length_le (by omega)] at h2
      simp only [eval_ite, hk, decide_false]
      exact ⟨_, rfl, by simpa [mkD, rD, eval_ret, LoopNext] using h2⟩
  · simp [Tr.eval] at h
theorem sl_step (vs ks xs acc : List V) (len k : Int) : (loopStep E16 0 11 (loopB Try.f16 11) [.mref 0, .full 3 1 0 acc.length, .seq 48 vs, .int .i64 len, .int .i64 k] [.dict false 66 ks xs, .row false 0 3 acc]).eval =
  (Tr.ite (decide (k < len))
 (.ite (decide (0 ≤ k) && decide (k < ↑vs.length))
  (.ite (dictFind TK (kV (vs.getD k.toNat V.top)) ks xs).isSome
   (.ite (decide (acc.length + 1 ≤ 4294967296))
    (.ret ((Ex.normal, [V.mref 0, V.full 3 1 0 (acc ++ [V.int IntKind.i64 ((dictFind TK (kV (vs.getD k.toNat V.top)) ks xs).getD V.top).toI]).length, V.seq 48 vs, V.int IntKind.i64 len, V.int IntKind.i64 (IntKind.i64.wrap (k + 1))],
      [Ob.dict false 66 ks xs, Ob.row false 0 3 (acc ++ [V.int IntKind.i64 ((dictFind TK (kV (vs.getD k.toNat V.top)) ks xs).getD V.top).toI])])))
    .fail)
   (.ite (decide (acc.length + 1 ≤ 4294967296))
    (.ret ((Ex.normal, [V.mref 0, V.full 3 1 0 (acc ++ [V.int IntKind.i64 (-1)]).length, V.seq 48 vs, V.int IntKind.i64 len, V.int IntKind.i64 (IntKind.i64.wrap (k + 1))],
      [Ob.dict false 66 ks xs, Ob.row false 0 3 (acc ++ [V.int IntKind.i64 (-1)])])))
    .fail))
  .fail)
 (.ret ((Ex.exit 2, [V.full 3 0 0 acc.length], [Ob.row false 0 3 acc])))).eval := by kernel_rfl
theorem sl_law : LoopLaw E16 0 (loopB Try.f16 11) := by
  refine ⟨fun vs _ => (match vs with | [_, _, .seq _ vs, _, .int _ k] => vs.length - k.toNat | _ => 0), fun vs os r h => ?_⟩
  rw [show loopKey (loopB Try.f16 11) = 11 from by kernel_rfl] at h ⊢
  replace h : (LSl vs os).eval = some r := h
  unfold LSl at h
  split at h
  · rename_i n vs len k ks xs acc
    unfold lSl at h
    obtain ⟨h1, h2⟩ := eval_test h
    simp only [Bool.and_eq_true, decide_eq_true_eq] at h1
    obtain ⟨⟨⟨⟨⟨rfl, h3⟩, h4⟩, h5⟩, h6⟩, rfl⟩ := h1
    rw [sl_step]
    by_cases hk : k < (vs.length : Int)
    · have hkn : k.toNat < vs.length := by omega
      have ek : (k + 1).toNat = k.toNat + 1 := by omega
      rw [drop_lt hkn, List.map_cons, dOf] at h2
      simp only [eval_ite, hk, h3, decide_true, Bool.and_self, if_true, wrap_i64 (show -9223372036854775808 ≤ k + 1 by omega) (by omega), show acc.length + 1 ≤ 4294967296 by omega]
      cases hp : (dictFind TK (kV (vs.getD k.toNat V.top)) ks xs).isSome with
      | true =>
        rw [hp] at h2
        refine ⟨_, rfl, by show vs.length - (k + 1).toNat < vs.length - k.toNat; omega, ?_⟩
        show (lSl vs ks xs (acc ++ [V.int .i64 _]) (acc ++ [V.int .i64 _]).length vs.length (k + 1)).eval = some r
        unfold lSl
        rw [ek, ← h2]
        simp [Tr.test, eval_ite, h4, show (0 : Int) ≤ k + 1 by omega, show (acc.length : Int) ≤ k by omega, show k + 1 ≤ (vs.length : Int) by omega]
      | false =>
        rw [hp] at h2
        refine ⟨_, rfl, by show vs.length - (k + 1).toNat < vs.length - k.toNat; omega, ?_⟩
        show (lSl vs ks xs (acc ++ [V.int .i64 _]) (acc ++ [V.int .i64 _]).length vs.length (k + 1)).eval = some r
        unfold lSl
        rw [ek, ← h2]
        simp [Tr.test, eval_ite, h4, show (0 : Int) ≤ k + 1 by omega, show (acc.length : Int) ≤ k by omega, show k + 1 ≤ (vs.length : Int) by omega]
    · rw [List.drop_of_length_le (by omega)] at h2
      simp only [eval_ite, hk, decide_false]
      exact ⟨_, rfl, by simpa [rSl, eval_ret, LoopNext] using h2⟩
  · simp [Tr.eval] at h
def slotI (old : List V) (u : V) : Int := ixI (findIx (sameVar u) old 0)
def slotsOf (old new : List V) : List V := new.map fun u => V.int .i64 (slotI old u)
theorem dOf_mkD (old : List V) (u : V) : dOf (mkD old 0 [] []).1 (mkD old 0 [] []).2 u = .int .i64 (slotI old u) := by
  unfold dOf slotI
  rw [find_mkD u old 0 [] [] (fun k h => by simp at h) rfl]
  show (match ((findIx (sameVar u) old 0).map fun k => V.int .i64 k).isSome with | true => V.int .i64 (((findIx (sameVar u) old 0).map fun k => V.int .i64 k).getD .top).toI | false => .int .i64 (-1)) = _
  cases findIx (sameVar u) old 0 <;> rfl
def mSlots : Model
  | [.seq 48 old, .seq 48 new], [] => .test (decide (old.length ≤ 65536) && decide (new.length ≤ 65536)) (.ret (.ret (.seq 3 (slotsOf old new)) []))
  | _, _ => .fail
theorem slots_run (old new : List V) : (runF E16 false Try.f16 [.seq 48 old, .seq 48 new] []).eval =
  (Tr.ite (decide ((old.length : Int) = old.length) && decide ((0 : Int) ≤ 0) && decide (old.length ≤ 65536))
    (.ite (decide ((new.length : Int) = new.length) && decide ((0 : Int) ≤ 0) && decide (new.length ≤ 65536) && decide ((([] : List V).length : Int) ≤ 0) && decide ((0 : Int) ≤ new.length) && decide (0 = ([] : List V).length))
     (.ret (.ret (.seq 3 ([] ++ (new.drop (0 : Int).toNat).map (dOf (mkD (old.drop (0 : Int).toNat) (0 : Int).toNat [] []).1 (mkD (old.drop (0 : Int).toNat) (0 : Int).toNat [] []).2))) [])) .fail) .fail).eval := by kernel_rfl
theorem slots_holds : Holds T tG Try.prog 16 mSlots := by
  refine holds_of 16 [] ok_nil L16 (fn := Try.f16) (c := (Try.f16.body).getD .skip) (by kernel_rfl) (by kernel_rfl) (by kernel_rfl) (by kernel_rfl) mSlots ?_
  intro args objs out h
  unfold mSlots at h
  split at h
  · rename_i old new
    obtain ⟨h1, h2⟩ := eval_test h
    simp only [Bool.and_eq_true, decide_eq_true_eq] at h1
    refine ⟨loops_two (by kernel_rfl) d_law sl_law, ?_⟩
    show (runF E16 false Try.f16 _ _).eval = _
    rw [slots_run, ← h2]
    have e : new.map (dOf (mkD old 0 [] []).1 (mkD old 0 [] []).2) = slotsOf old new := List.map_congr_left fun u _ => dOf_mkD old u
    simp only [eval_ite, h1.1, h1.2, Int.toNat_zero, List.drop_zero, e, List.nil_append, List.length_nil, show ((0 : Int) ≤ 0) from Int.le_refl 0, decide_true, Bool.and_self, if_true, show ((0 : Int) ≤ new.length) by omega, show (((0 : Nat) : Int) ≤ 0) by omega]
  · simp [Tr.eval] at h
end Go.Proofs.Ytecplbjggbelbaa
