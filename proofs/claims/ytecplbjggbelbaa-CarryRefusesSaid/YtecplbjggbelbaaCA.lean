/- Carry: the functions below, and what they compute: sees, Check, Of, Default, IndexFunc, first, Find, In. -/
import Derived.Test.YtecplbjggbelbaaTy
import Derived.Test.YtecplbjggbelbaaAHRun
import Derived.Test.YtecplbjggbelbaaChecked
namespace Go.Proofs.Ytecplbjggbelbaa
open Go Go.AH
def loopB (f : Func) (k : Nat) : Code := (bodyAt k (loopsIn (f.body.getD .skip))).getD .skip
def kp : Nat → Nat → List Nat × List Nat := fun f k =>
 match f with
 | 4 => (match k with | 10 => ([5, 6, 7, 9, 11, 12], [4, 5, 7]) | 19 => ([5, 7, 15, 16], [5, 7, 15]) | _ => ([],[]))
 | 5 => (match k with | 6 => ([1, 2, 7, 8, 9, 10], [7, 8, 9]) | 12 => ([7, 8, 9, 11, 12, 13, 14], [6, 7, 8, 9, 11, 12, 13]) | _ => ([],[]))
 | 7 => ([9, 11, 13, 15, 17, 19], [6])
 | 10 => (match k with | 2 => ([0, 1, 15, 16, 17], [6, 7]) | _ => ([],[]))
 | 13 => (match k with | 4 => ([0, 1, 2, 20, 21, 22], [0, 1, 2, 6, 7]) | 11 => ([1, 2, 10, 43, 44, 45], [6, 7, 10]) | _ => ([],[]))
 | 15 => ([0, 1, 5], [4])
 | 16 => (match k with | 3 => ([1, 5, 16, 17, 18], [1, 5]) | 11 => ([5, 10, 43, 44, 45], [10]) | _ => ([],[]))
 | 18 => ([0, 1, 5], [4])
 | 19 => ([0, 4, 5, 6], [4, 5])
 | 20 => ([0, 1, 2, 3, 8, 10], [8, 9])
 | 26 => ([1, 5, 8, 9, 10], [5])
 | 36 => ([0, 1, 7, 8], [4])
 | _ => ([],[])
abbrev LM := Nat → List V → List Ob → Tr (Ex × List V × List Ob)
def L0 : LM := fun _ _ _ => .fail
def tG : Nat → V := fun _ => .top
def EF (f : Nat) (C : List (FuncId × Model)) (L : LM) : Env := ⟨T, lookM C, L, fun g => (match Nat.beq g 13 with | true => [false, false, false, true] | false => []), tG, fun k => (kp f k).1, fun k => (kp f k).2⟩
abbrev Ok (l : List (FuncId × Model)) : Prop := ∀ p ∈ l, Holds T tG Try.prog p.1 p.2
theorem ok_nil : Ok [] := fun p h => by simp at h
theorem ok_cons {f : FuncId} {M : Model} {l : List (FuncId × Model)} (h : Holds T tG Try.prog f M) (hl : Ok l) : Ok ((f, M) :: l) := fun p hp => by
  rcases List.mem_cons.1 hp with rfl | hp
  · exact h
  · exact hl p hp
/-- A function's law, by the list of those below. -/
theorem holds_of {f : FuncId} {fn : Func} {c : Code} (k : Nat) (l : List (FuncId × Model)) (hl : Ok l) (L : LM) (hf : Try.prog.funcs[f]? = some fn) (hname : (fn.name == "runtime.NumGoroutine") = false) (hb : fn.body = some c) (hcode : codeOk fn.ntmps c = true)
    (M : Model) (hlaw : ∀ args objs out, (M args objs).eval = some out → Loops (EF k l L) objs.length c ∧ (runF (EF k l L) false fn args objs).eval = some out) : Holds T tG Try.prog f M :=
  fn_sound (E := EF k l L) tyOk (lookM_holds l hl) hf hname hb hcode false M hlaw
theorem eval_ite {α : Type} {b : Bool} {t e : Tr α} : (Tr.ite b t e).eval = if b = true then t.eval else e.eval := by cases b <;> rfl
theorem eval_ret {α : Type} {a : α} : (Tr.ret a).eval = some a := rfl
theorem eval_fail {α : Type} : (Tr.fail : Tr α).eval = none := rfl
theorem wrap_i64 {n : Int} (h1 : -9223372036854775808 ≤ n) (h2 : n ≤ 9223372036854775807) : IntKind.i64.wrap n = n := by
  simp [IntKind.wrap, IntKind.bits, IntKind.signed]
  omega
theorem getD_lt {vs : List V} {k : Nat} (h : k < vs.length) : vs.getD k .top = vs[k] := by rw [List.getD_eq_getElem?_getD, List.getElem?_eq_getElem h]; rfl
theorem drop_lt {vs : List V} {k : Nat} (h : k < vs.length) : vs.drop k = vs.getD k .top :: vs.drop (k + 1) := by rw [getD_lt h]; exact List.drop_eq_getElem_cons h

/- A variable's parts. -/
def nmV (v : V) : List UInt8 := (v.cell 0).toS
def tyV (v : V) : Int := (v.cell 1).toI
def frV (v : V) : Int := (v.cell 3).toI
def toV (v : V) : Int := (v.cell 4).toI
def seesV (v : V) (p : Int) : Bool := decide (frV v ≤ p) && decide (p < toV v)

def mSees : Model
  | [.agg [.str _, .int .i64 _, .int .i64 _, .int .i64 d, .int .i64 e], .int .i64 p], [] => .ret (.ret (.bool (decide (d ≤ p) && decide (p < e))) [])
  | _, _ => .fail
theorem sees_holds : Holds T tG Try.prog 34 mSees := by
  refine holds_of 34 [] ok_nil L0 (fn := Try.f34) (c := (Try.f34.body).getD .skip) (by kernel_rfl) (by kernel_rfl) (by kernel_rfl) (by kernel_rfl) mSees ?_
  intro args objs out h
  unfold mSees at h
  split at h
  · rename_i s a b d e p
    refine ⟨loops_none (by kernel_rfl), ?_⟩
    rw [show (runF (EF 34 [] L0) false Try.f34 [.agg [.str s, .int .i64 a, .int .i64 b, .int .i64 d, .int .i64 e], .int .i64 p] []).eval = (Tr.ite (decide (d ≤ p)) (.ret (Out.ret (V.bool (decide (p < e))) [])) (.ret (Out.ret (V.bool false) []))).eval from by kernel_rfl, ← h]
    cases decide (d ≤ p) <;> rfl
  · simp [Tr.eval] at h

def chkI (a b : Int) : Int := if a = 1 then 0 else if a = 2 then (if 0 ≤ b ∧ b < 2 then 0 else 2) else if a = 3 then (if 0 ≤ b then 0 else 2) else 2
def mChk : Model
  | [.agg [.int .i64 a, .int .i64 b]], [] => .ret (.ret (.int .i64 (chkI a b)) [])
  | _, _ => .fail
theorem chk_holds : Holds T tG Try.prog 22 mChk := by
  refine holds_of 22 [] ok_nil L0 (fn := Try.f22) (c := (Try.f22.body).getD .skip) (by kernel_rfl) (by kernel_rfl) (by kernel_rfl) (by kernel_rfl) mChk ?_
  intro args objs out h
  unfold mChk at h
  split at h
  · rename_i a b
    refine ⟨loops_none (by kernel_rfl), ?_⟩
    rw [show (runF (EF 22 [] L0) false Try.f22 [.agg [.int .i64 a, .int .i64 b]] []).eval = (Tr.ite (a == 1) (.ret (Out.ret (V.int IntKind.i64 0) []))
      (.ite (a == 2) (.ite (decide (b ≥ 0)) (.ite (!decide (b < 2)) (.ret (Out.ret (V.int IntKind.i64 2) [])) (.ret (Out.ret (V.int IntKind.i64 0) []))) (.ret (Out.ret (V.int IntKind.i64 2) [])))
        (.ite (a == 3) (.ite (!decide (b ≥ 0)) (.ret (Out.ret (V.int IntKind.i64 2) [])) (.ret (Out.ret (V.int IntKind.i64 0) []))) (.ret (Out.ret (V.int IntKind.i64 2) []))))).eval from by kernel_rfl, ← h]
    simp only [eval_ite, eval_ret, chkI, beq_iff_eq, decide_eq_true_eq, Bool.not_eq_true', decide_eq_false_iff_not, ge_iff_le]
    repeat' split
    all_goals first | rfl | omega
  · simp [Tr.eval] at h

def mOfV : Model
  | [.int .i64 a, .int .i64 b], [] => .ite (chkI a b != 0) (.ret (.ret (.tup [.agg [.int .i64 0, .int .i64 0], .int .i64 (chkI a b)]) [])) (.ret (.ret (.tup [.agg [.int .i64 a, .int .i64 b], .int .i64 0]) []))
  | _, _ => .fail
theorem ofV_holds : Holds T tG Try.prog 31 mOfV := by
  refine holds_of 31 [(22, mChk)] (ok_cons chk_holds ok_nil) L0 (fn := Try.f31) (c := (Try.f31.body).getD .skip) (by kernel_rfl) (by kernel_rfl) (by kernel_rfl) (by kernel_rfl) mOfV ?_
  intro args objs out h
  unfold mOfV at h
  split at h
  · rename_i a b
    refine ⟨loops_none (by kernel_rfl), ?_⟩
    rw [← h]
    kernel_rfl
  · simp [Tr.eval] at h
/-- The type of a first value; 0 where there is none. -/
def defT (a : Int) : Int := match chkI a 0 == 0 with | true => a | false => 0
def mDef : Model
  | [.int .i64 a], [] => .ret (.ret (.tup [.agg [.int .i64 (defT a), .int .i64 0], .int .i64 (chkI a 0)]) [])
  | _, _ => .fail
theorem def_holds : Holds T tG Try.prog 21 mDef := by
  refine holds_of 21 [(31, mOfV)] (ok_cons ofV_holds ok_nil) L0 (fn := Try.f21) (c := (Try.f21.body).getD .skip) (by kernel_rfl) (by kernel_rfl) (by kernel_rfl) (by kernel_rfl) mDef ?_
  intro args objs out h
  unfold mDef at h
  split at h
  · rename_i a
    refine ⟨loops_none (by kernel_rfl), ?_⟩
    rw [show (runF (EF 21 [(31, mOfV)] L0) false Try.f21 [.int .i64 a] []).eval = (Tr.ite (chkI a 0 != 0) (.ret (.ret (.tup [.agg [.int .i64 0, .int .i64 0], .int .i64 (chkI a 0)]) [])) (.ret (.ret (.tup [.agg [.int .i64 a, .int .i64 0], .int .i64 0]) []))).eval from by kernel_rfl, ← h]
    unfold defT
    by_cases h1 : chkI a 0 = 0
    · simp [h1, eval_ite]
    · have h2 : (chkI a 0 == 0) = false := by simpa using h1
      simp [h1, h2, eval_ite]
  · simp [Tr.eval] at h
end Go.Proofs.Ytecplbjggbelbaa
