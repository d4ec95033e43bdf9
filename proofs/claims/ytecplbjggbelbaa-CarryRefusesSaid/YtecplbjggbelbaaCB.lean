/- Carry: IndexFunc, first, Find, In, Changed. -/
import Derived.Test.YtecplbjggbelbaaCA
namespace Go.Proofs.Ytecplbjggbelbaa
open Go Go.AH
set_option maxRecDepth 100000
def mFind1 : Model
  | [.agg [.str s, .int .i64 _, .int .i64 _, .int .i64 _, .int .i64 _], .pref [.str n]], [] => .ret (.ret (.bool (s == n)) [])
  | _, _ => .fail
theorem find1_holds : Holds T tG Try.prog 33 mFind1 := by
  refine holds_of 33 [] ok_nil L0 (fn := Try.f33) (c := (Try.f33.body).getD .skip) (by kernel_rfl) (by kernel_rfl) (by kernel_rfl) (by kernel_rfl) mFind1 ?_
  intro args objs out h
  unfold mFind1 at h
  split at h
  · refine ⟨loops_none (by kernel_rfl), ?_⟩
    rw [← h]
    kernel_rfl
  · simp [Tr.eval] at h

def isNm (n : List UInt8) (v : V) : Bool := nmV v == n
def findIx (p : V → Bool) : List V → Nat → Option Nat
  | [], _ => none
  | v :: r, i => (match p v with | true => some i | false => findIx p r (i + 1))
def resIx (o : Option Nat) : Tr (Ex × List V × List Ob) := .ite o.isSome (.ret (.ret, [.int .i64 ((o.getD 0 : Nat) : Int)], [])) (.ret (.exit 0, [.top], []))
def lFind (vs : List V) (n : List UInt8) (len k : Int) : Tr (Ex × List V × List Ob) :=
  .test (decide (len = vs.length) && decide (0 ≤ k) && decide (vs.length ≤ lim)) (resIx (findIx (isNm n) (vs.drop k.toNat) k.toNat))
def LFind : List V → List Ob → Tr (Ex × List V × List Ob)
  | [.seq 48 vs, .clo 33 [] [.pref [.str n]], .int .i64 len, .int .i64 k], [] => lFind vs n len k
  | _, _ => .fail
def E36 : Env := EF 36 [(33, mFind1)] fun key => (match key with | 2 => LFind | _ => fun _ _ => .fail)
theorem find_step (vs : List V) (n : List UInt8) (len k : Int) : (loopStep E36 0 2 (loopB Try.f36 2) [.seq 48 vs, .clo 33 [] [.pref [.str n]], .int .i64 len, .int .i64 k] []).eval =
  (Tr.ite (decide (k < len))
 (.ite (decide (0 ≤ k) && decide (k < ↑vs.length))
  (.ite (isNm n (vs.getD k.toNat V.top))
   (.ret ((Ex.ret, [V.int IntKind.i64 k], [])))
   (.ret ((Ex.normal, [V.seq 48 vs, V.clo 33 [] [V.pref [V.str n]], V.int IntKind.i64 len, V.int IntKind.i64 (IntKind.i64.wrap (k + 1))],
     []))))
  .fail)
 (.ret ((Ex.exit 0, [V.top], [])))).eval := by kernel_rfl
theorem find_law : LoopLaw E36 0 (loopB Try.f36 2) := by
  refine ⟨fun vs _ => (match vs with | [.seq _ vs, _, _, .int _ k] => vs.length - k.toNat | _ => 0), fun vs os r h => ?_⟩
  rw [show loopKey (loopB Try.f36 2) = 2 from by kernel_rfl] at h ⊢
  replace h : (LFind vs os).eval = some r := h
  unfold LFind at h
  split at h
  · rename_i vs n len k
    unfold lFind at h
    obtain ⟨h1, h2⟩ := eval_test h
    simp only [Bool.and_eq_true, decide_eq_true_eq] at h1
    obtain ⟨⟨rfl, h3⟩, h4⟩ := h1
    unfold lim at h4
    rw [find_step]
    by_cases hk : k < (vs.length : Int)
    · have hkn : k.toNat < vs.length := by omega
      have ek : (k + 1).toNat = k.toNat + 1 := by omega
      rw [drop_lt hkn, findIx] at h2
      simp only [eval_ite, hk, h3, decide_true, Bool.and_self, if_true, wrap_i64 (show -9223372036854775808 ≤ k + 1 by omega) (by omega)]
      cases hp : isNm n (vs.getD k.toNat .top) with
      | true =>
        rw [hp] at h2
        simp only [resIx, Option.isSome_some, Option.getD_some, eval_ite, eval_ret, if_true, Option.some.injEq] at h2
        exact ⟨_, rfl, by rw [← h2, Int.toNat_of_nonneg h3]; rfl⟩
      | false =>
        rw [hp] at h2
        refine ⟨_, rfl, by show vs.length - (k + 1).toNat < vs.length - k.toNat; omega, ?_⟩
        show (lFind vs n vs.length (k + 1)).eval = some r
        unfold lFind
        rw [ek]
        simpa [Tr.test, eval_ite, lim, h4, show (0 : Int) ≤ k + 1 by omega] using h2
    · rw [List.drop_of_length_le (by omega)] at h2
      simp only [eval_ite, hk, decide_false]
      exact ⟨_, rfl, by simpa [findIx, resIx, eval_ite, eval_ret, LoopNext] using h2⟩
  · simp [Tr.eval] at h
/-- The index, or -1. -/
def ixI (o : Option Nat) : Int := match o with | some k => (k : Int) | none => -1
def mIx : Model
  | [.seq 48 vs, .clo 33 [] [.pref [.str n]]], [] => .test (decide (vs.length ≤ lim)) (.ret (.ret (.int .i64 (ixI (findIx (isNm n) vs 0))) []))
  | _, _ => .fail
theorem ix_run (vs : List V) (n : List UInt8) : (runF E36 false Try.f36 [.seq 48 vs, .clo 33 [] [.pref [.str n]]] []).eval =
  (Tr.ite (decide ((vs.length : Int) = vs.length) && decide ((0 : Int) ≤ 0) && decide (vs.length ≤ lim)) (.ite (findIx (isNm n) (vs.drop (0 : Int).toNat) (0 : Int).toNat).isSome (.ret (.ret (.int .i64 (((findIx (isNm n) (vs.drop (0 : Int).toNat) (0 : Int).toNat).getD 0 : Nat) : Int)) [])) (.ret (.ret (.int .i64 (-1)) []))) .fail).eval := by kernel_rfl
theorem ix_holds : Holds T tG Try.prog 36 mIx := by
  refine holds_of 36 [(33, mFind1)] (ok_cons find1_holds ok_nil) (fun key => (match key with | 2 => LFind | _ => fun _ _ => .fail)) (fn := Try.f36) (c := (Try.f36.body).getD .skip) (by kernel_rfl) (by kernel_rfl) (by kernel_rfl) (by kernel_rfl) mIx ?_
  intro args objs out h
  unfold mIx at h
  split at h
  · rename_i vs n
    obtain ⟨h1, h2⟩ := eval_test h
    refine ⟨loops_one (by kernel_rfl) find_law, ?_⟩
    show (runF E36 false Try.f36 _ _).eval = _
    rw [ix_run, ← h2]
    simp only [eval_ite, h1, decide_true, Bool.and_self, if_true, Int.toNat_zero, List.drop_zero, show ((0 : Int) ≤ 0) from Int.le_refl 0]
    cases findIx (isNm n) vs 0 <;> rfl
  · simp [Tr.eval] at h

def mFirst : Model
  | [.seq 48 vs, .clo 33 [] [.pref [.str n]]], [] => .test (decide (vs.length ≤ lim)) (.ret (.ret (.tup [.int .i64 ((findIx (isNm n) vs 0).getD 0 : Nat), .bool (findIx (isNm n) vs 0).isSome]) []))
  | _, _ => .fail
theorem first_holds : Holds T tG Try.prog 32 mFirst := by
  refine holds_of 32 [(36, mIx)] (ok_cons ix_holds ok_nil) L0 (fn := Try.f32) (c := (Try.f32.body).getD .skip) (by kernel_rfl) (by kernel_rfl) (by kernel_rfl) (by kernel_rfl) mFirst ?_
  intro args objs out h
  unfold mFirst at h
  split at h
  · rename_i vs n
    refine ⟨loops_none (by kernel_rfl), ?_⟩
    obtain ⟨h1, h2⟩ := eval_test h
    rw [show (runF (EF 32 [(36, mIx)] L0) false Try.f32 [.seq 48 vs, .clo 33 [] [.pref [.str n]]] []).eval = (Tr.ite (decide (vs.length ≤ lim))
      (.ret (.ret (.tup [.int .i64 (match decide ((0 : Int) > ixI (findIx (isNm n) vs 0)) with | true => 0 | false => ixI (findIx (isNm n) vs 0)), .bool (decide (ixI (findIx (isNm n) vs 0) ≥ 0))]) [])) .fail).eval from by kernel_rfl, ← h2]
    simp only [eval_ite, h1, if_true]
    cases findIx (isNm n) vs 0 with
    | none => rfl
    | some k =>
      have hk : ¬ ((k : Int) < 0) := by omega
      simp [ixI, eval_ret, hk]
  · simp [Tr.eval] at h
def mFind : Model
  | [.seq 48 vs, .str n], [] => .test (decide (vs.length ≤ lim)) (.ret (.ret (.tup [.int .i64 ((findIx (isNm n) vs 0).getD 0 : Nat), .bool (findIx (isNm n) vs 0).isSome]) []))
  | _, _ => .fail
theorem find_holds : Holds T tG Try.prog 23 mFind := by
  refine holds_of 23 [(32, mFirst)] (ok_cons first_holds ok_nil) L0 (fn := Try.f23) (c := (Try.f23.body).getD .skip) (by kernel_rfl) (by kernel_rfl) (by kernel_rfl) (by kernel_rfl) mFind ?_
  intro args objs out h
  unfold mFind at h
  split at h
  · refine ⟨loops_none (by kernel_rfl), ?_⟩
    rw [← h]
    kernel_rfl
  · simp [Tr.eval] at h

def inFrom (p : Int) : List V → Nat → List V
  | [], _ => []
  | v :: r, k => (match seesV v p with | true => .int .i64 k :: inFrom p r (k + 1) | false => inFrom p r (k + 1))
def rIn (o : List V) : Tr (Ex × List V × List Ob) := .ret (.exit 0, [.full 3 0 0 o.length], [.row false 0 3 o])
def lIn (vs acc : List V) (p : Int) (n : Nat) (len k : Int) : Tr (Ex × List V × List Ob) :=
  .test (decide (len = vs.length) && decide (0 ≤ k) && decide (vs.length ≤ 65536) && decide (acc.length ≤ k) && decide (k ≤ len) && decide (n = acc.length)) (rIn (acc ++ inFrom p (vs.drop k.toNat) k.toNat))
def LIn : List V → List Ob → Tr (Ex × List V × List Ob)
  | [.int .i64 p, .full 3 0 0 n, .seq 48 vs, .int .i64 len, .int .i64 k], [.row false 0 3 acc] => lIn vs acc p n len k
  | _, _ => .fail
def E26 : Env := EF 26 [(34, mSees)] fun key => (match key with | 3 => LIn | _ => fun _ _ => .fail)
theorem in_step (vs acc : List V) (p len k : Int) : (loopStep E26 0 3 (loopB Try.f26 3) [.int .i64 p, .full 3 0 0 acc.length, .seq 48 vs, .int .i64 len, .int .i64 k] [.row false 0 3 acc]).eval =
  (Tr.ite (decide (k < len))
 (.ite (decide (0 ≤ k) && decide (k < ↑vs.length))
  (.ite (seesV (vs.getD k.toNat V.top) p)
   (.ite (decide (acc.length + 1 ≤ 4294967296))
    (.ret ((Ex.normal,
      [V.int IntKind.i64 p, V.full 3 0 0 (acc ++ [V.int IntKind.i64 k]).length, V.seq 48 vs, V.int IntKind.i64 len,
        V.int IntKind.i64 (IntKind.i64.wrap (k + 1))],
      [Ob.row false 0 3 (acc ++ [V.int IntKind.i64 k])])))
    .fail)
   (.ret ((Ex.normal,
     [V.int IntKind.i64 p, V.full 3 0 0 acc.length, V.seq 48 vs, V.int IntKind.i64 len, V.int IntKind.i64 (IntKind.i64.wrap (k + 1))],
     [Ob.row false 0 3 acc]))))
  .fail)
 (.ret ((Ex.exit 0, [V.full 3 0 0 acc.length], [Ob.row false 0 3 acc])))).eval := by kernel_rfl
theorem in_law : LoopLaw E26 0 (loopB Try.f26 3) := by
  refine ⟨fun vs _ => (match vs with | [_, _, .seq _ vs, _, .int _ k] => vs.length - k.toNat | _ => 0), fun vs os r h => ?_⟩
  rw [show loopKey (loopB Try.f26 3) = 3 from by kernel_rfl] at h ⊢
  replace h : (LIn vs os).eval = some r := h
  unfold LIn at h
  split at h
  · rename_i p n vs len k acc
    unfold lIn at h
    obtain ⟨h1, h2⟩ := eval_test h
    simp only [Bool.and_eq_true, decide_eq_true_eq] at h1
    obtain ⟨⟨⟨⟨⟨rfl, h3⟩, h4⟩, h5⟩, h6⟩, rfl⟩ := h1
    rw [in_step]
    by_cases hk : k < (vs.length : Int)
    · have hkn : k.toNat < vs.length := by omega
      have ek : (k + 1).toNat = k.toNat + 1 := by omega
      rw [drop_lt hkn, inFrom] at h2
      simp only [eval_ite, hk, h3, decide_true, Bool.and_self, if_true, wrap_i64 (show -9223372036854775808 ≤ k + 1 by omega) (by omega), show acc.length + 1 ≤ 4294967296 by omega]
      cases hp : seesV (vs.getD k.toNat .top) p with
      | true =>
        rw [hp] at h2
        refine ⟨_, rfl, by show vs.length - (k + 1).toNat < vs.length - k.toNat; omega, ?_⟩
        show (lIn vs (acc ++ [V.int .i64 k]) p (acc ++ [V.int .i64 k]).length vs.length (k + 1)).eval = some r
        unfold lIn
        rw [ek, ← h2]
        have e : (k.toNat : Int) = k := Int.toNat_of_nonneg h3
        simp [Tr.test, eval_ite, h4, show (0 : Int) ≤ k + 1 by omega, show (acc.length : Int) ≤ k by omega, show k + 1 ≤ (vs.length : Int) by omega, e]
      | false =>
        rw [hp] at h2
        refine ⟨_, rfl, by show vs.length - (k + 1).toNat < vs.length - k.toNat; omega, ?_⟩
        show (lIn vs acc p acc.length vs.length (k + 1)).eval = some r
        unfold lIn
        rw [ek, ← h2]
        simp [Tr.test, eval_ite, h4, show (0 : Int) ≤ k + 1 by omega, show (acc.length : Int) ≤ k + 1 by omega, show k + 1 ≤ (vs.length : Int) by omega]
    · rw [List.drop_of_length_le (by omega)] at h2
      simp only [eval_ite, hk, decide_false]
      exact ⟨_, rfl, by simpa [inFrom, rIn, eval_ret, LoopNext] using h2⟩
  · simp [Tr.eval] at h
def mIn : Model
  | [.seq 48 vs, .int .i64 p], [] => .test (decide (vs.length ≤ 65536)) (.ret (.ret (.seq 3 (inFrom p vs 0)) []))
  | _, _ => .fail
theorem in_run (vs : List V) (p : Int) : (runF E26 false Try.f26 [.seq 48 vs, .int .i64 p] []).eval =
  (Tr.ite (decide ((vs.length : Int) = vs.length) && decide ((0 : Int) ≤ 0) && decide (vs.length ≤ 65536) && decide ((([] : List V).length : Int) ≤ 0) && decide ((0 : Int) ≤ vs.length) && decide (0 = ([] : List V).length))
    (.ret (.ret (.seq 3 ([] ++ inFrom p (vs.drop (0 : Int).toNat) (0 : Int).toNat)) [])) .fail).eval := by kernel_rfl
theorem in_holds : Holds T tG Try.prog 26 mIn := by
  refine holds_of 26 [(34, mSees)] (ok_cons sees_holds ok_nil) (fun key => (match key with | 3 => LIn | _ => fun _ _ => .fail)) (fn := Try.f26) (c := (Try.f26.body).getD .skip) (by kernel_rfl) (by kernel_rfl) (by kernel_rfl) (by kernel_rfl) mIn ?_
  intro args objs out h
  unfold mIn at h
  split at h
  · rename_i vs p
    obtain ⟨h1, h2⟩ := eval_test h
    refine ⟨loops_one (by kernel_rfl) in_law, ?_⟩
    show (runF E26 false Try.f26 _ _).eval = _
    rw [in_run, ← h2]
    simp [eval_ite, eval_ret, of_decide_eq_true h1]
  · simp [Tr.eval] at h
end Go.Proofs.Ytecplbjggbelbaa
