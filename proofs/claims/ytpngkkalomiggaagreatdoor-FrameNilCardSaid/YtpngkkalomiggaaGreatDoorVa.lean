/- A part of the proof: VisZ, VisW, VisX, VisY, VisV, VisU, VisS. -/
import Derived.Test.YtpngkkalomiggaaGreatDoorLg
import Derived.Test.YtpngkkalomiggaaGreatDoorEG
import Derived.Test.YtpngkkalomiggaaGreatDoorEF
set_option linter.all false
namespace Go.Proofs.YtpngkkalomiggaaGreatDoor
open Go Go.AH Go.RowKit
def EV : Env := { ty := T, C := fun _ _ _ => .fail, L := fun _ _ _ _ => .fail, mode := fun _ => [], glob := gl, keep := fun _ => [], keepX := fun _ => [] }
theorem hCV : ∀ g, Holds EV.ty EV.glob Tryz.prog g (EV.C g) := fun g args objs out h => by simp [EV, Tr.eval] at h
def regO (k : Nat) : Code → Option (Array Oper)
  | .region id ops _ => (match Nat.beq id k with | true => some ops | false => none)
  | .seq a b => (match regO k a with | some o => some o | none => regO k b)
  | .cond _ a b => (match regO k a with | some o => some o | none => regO k b)
  | .block _ b => regO k b
  | .loop b => regO k b
  | _ => none
noncomputable def ro (k : Nat) : Array Oper := (regO k (Tryz.f163.body.getD .skip)).getD #[]
theorem bodyV : Tryz.f163.body = some (.seq (.region 0 (ro 0) false) (.seq (.seq (.region 1 (ro 1) false) (.block 0 (.loop (.seq (.region 2 (ro 2) false) (.seq (.cond (.tmp 13) .skip (.exit 0)) (.seq (.block 1 (.seq (.region 3 (ro 3) false) (.seq (.region 4 (ro 4) false) (.seq (.region 5 (ro 5) false) (.cond (.tmp 42) (.seq (.region 6 (ro 6) false) .ret) .skip))))) (.region 7 (ro 7) false))))))) (.seq (.region 8 (ro 8) false) .ret))) := by kernel_rfl
/-- The slots at a round's head. -/
def sI (par : V) (blk : List V) (i : Nat) : St := ⟨ofList .top [(0, par), (1, .seq 155 blk), (10, .seq 155 blk), (11, .int .i64 blk.length), (12, .int .i64 i)], fun _ => .dead, 0⟩
def goI (t : Tr Rg) : St := match t with | .ite _ (.ret (.go s)) _ => s | .ret (.go s) => s | _ => ⟨fun _ => .top, fun _ => .dead, 0⟩
noncomputable def g3 (par : V) (blk : List V) (i : Nat) : St := goI (stepOps EV false noHint (ro 3).toList 0 [0, 1, 2, 3, 4, 5] (sI par blk i))
theorem e3 (par : V) (blk : List V) (i : Nat) : stepOps EV false noHint (ro 3).toList 0 [0, 1, 2, 3, 4, 5] (sI par blk i) = .ite (decide ((0 : Int) ≤ i) && decide ((i : Int) < (blk.length : Int))) (.ret (.go (g3 par blk i))) .fail := by kernel_rfl
noncomputable def g4 (par : V) (blk : List V) (i : Nat) : St := goI (stepOps EV false noHint (ro 4).toList 640 [0, 1, 2, 3, 4, 5, 6] (g3 par blk i))
def IsPar (par : V) : Prop := par = .nilp ∨ ∃ cs, par = .pref cs
theorem IsPar.refs {par : V} (h : IsPar par) : par.refs = [] := by
  rcases h with rfl | ⟨cs, rfl⟩ <;> rfl
theorem e4 {par : V} (hp : IsPar par) (blk : List V) (i : Nat) : stepOps EV false noHint (ro 4).toList 640 [0, 1, 2, 3, 4, 5, 6] (g3 par blk i) = .ret (.go (g4 par blk i)) := by
  rcases hp with rfl | ⟨cs, rfl⟩ <;> kernel_rfl
theorem g4_8 {par : V} (hp : IsPar par) (blk : List V) (i : Nat) : (g4 par blk i).slot 8 = .box 192 0 := by
  rcases hp with rfl | ⟨cs, rfl⟩ <;> kernel_rfl
theorem g4_9 {par : V} (hp : IsPar par) (blk : List V) (i : Nat) : (g4 par blk i).slot 9 = .box 960 0 := by
  rcases hp with rfl | ⟨cs, rfl⟩ <;> kernel_rfl
theorem g4_ob8 {par : V} (hp : IsPar par) (blk : List V) (i : Nat) : (g4 par blk i).ob 192 = .box false (etaT (T 155) (blk.getD i .top)).cells := by
  rcases hp with rfl | ⟨cs, rfl⟩ <;> kernel_rfl
theorem g4_ob9 {par : V} (hp : IsPar par) (blk : List V) (i : Nat) : (g4 par blk i).ob 960 = .box false (par :: ((etaT (T 155) (blk.getD i .top)).cells ++ [.seq 155 blk, .int .i64 i])) := by
  rcases hp with rfl | ⟨cs, rfl⟩ <;> kernel_rfl
/- The calls: what stands in the slots, as they return. -/
def goE (t : Option Rg) : St := match t with | some (.go s) => s | _ => ⟨fun _ => .top, fun _ => .dead, 0⟩
noncomputable def run5 (l : List Nat) (s : St) : Option Rg := (stepOps EV false noHint (ro 5).toList 1280 l s).eval
noncomputable def p0 (par : V) (blk : List V) (i : Nat) : St := { g4 par blk i with slot := upd (g4 par blk i).slot 23 .top }
noncomputable def p1 (par : V) (blk : List V) (i : Nat) : St := goE (run5 [1] (p0 par blk i))
noncomputable def p2 (par : V) (blk : List V) (i : Nat) (b : Bool) : St := { p1 par blk i with slot := upd (p1 par blk i).slot 25 (.bool b) }
noncomputable def p3 (par : V) (blk : List V) (i : Nat) : St := goE (run5 [3, 4, 5, 6, 7] (p2 par blk i true))
noncomputable def p3' (par : V) (blk : List V) (i : Nat) : St := { p3 par blk i with slot := upd (p3 par blk i).slot 31 .top }
noncomputable def p4 (par : V) (blk : List V) (i : Nat) (b : Bool) : St := { p3' par blk i with slot := upd (p3' par blk i).slot 32 (.bool b) }
noncomputable def p5 (par : V) (blk : List V) (i : Nat) : St := goE (run5 [10, 11, 12, 13, 14, 15] (p4 par blk i true))
noncomputable def p5' (par : V) (blk : List V) (i : Nat) : St := { p5 par blk i with slot := upd (p5 par blk i).slot 39 .top }
noncomputable def p6 (par : V) (blk : List V) (i : Nat) (b : Bool) : St := { p5' par blk i with slot := upd (p5' par blk i).slot 40 (.bool b) }
noncomputable def p7 (par : V) (blk : List V) (i : Nat) (b : Bool) : St := goE (run5 [18, 19] (p6 par blk i b))
section
variable {par : V} (hp : IsPar par) (blk : List V) (i : Nat)
include hp
theorem r1 : run5 [1] (p0 par blk i) = some (.go (p1 par blk i)) := by
  rcases hp with rfl | ⟨cs, rfl⟩ <;> kernel_rfl
theorem r3 : run5 [3, 4, 5, 6, 7] (p2 par blk i true) = some (.go (p3 par blk i)) := by
  rcases hp with rfl | ⟨cs, rfl⟩ <;> kernel_rfl
theorem r5 : run5 [10, 11, 12, 13, 14, 15] (p4 par blk i true) = some (.go (p5 par blk i)) := by
  rcases hp with rfl | ⟨cs, rfl⟩ <;> kernel_rfl
theorem r7 : run5 [18, 19] (p6 par blk i true) = some (.go (p7 par blk i true)) := by
  rcases hp with rfl | ⟨cs, rfl⟩ <;> kernel_rfl
theorem ob7 : (p7 par blk i true).ob = (g4 par blk i).ob := by
  rcases hp with rfl | ⟨cs, rfl⟩ <;> kernel_rfl
theorem ob1 : (p1 par blk i).ob = (g4 par blk i).ob := by
  rcases hp with rfl | ⟨cs, rfl⟩ <;> kernel_rfl
theorem ob3 : (p3 par blk i).ob = (g4 par blk i).ob := by
  rcases hp with rfl | ⟨cs, rfl⟩ <;> kernel_rfl
theorem ob5 : (p5 par blk i).ob = (g4 par blk i).ob := by
  rcases hp with rfl | ⟨cs, rfl⟩ <;> kernel_rfl
theorem s1_24 : (p1 par blk i).slot 24 = .box 960 0 := by
  rcases hp with rfl | ⟨cs, rfl⟩ <;> kernel_rfl
theorem s3_27 : (p3 par blk i).slot 27 = .bool false := by
  rcases hp with rfl | ⟨cs, rfl⟩ <;> kernel_rfl
theorem s3_28 : (p3 par blk i).slot 28 = .box 960 0 := by
  rcases hp with rfl | ⟨cs, rfl⟩ <;> kernel_rfl
theorem s3_30 : (p3 par blk i).slot 30 = .seq 155 ((blk.getD i .top).cell 6).toL := by
  rcases hp with rfl | ⟨cs, rfl⟩ <;> kernel_rfl
theorem s5_35 : (p5 par blk i).slot 35 = .bool false := by
  rcases hp with rfl | ⟨cs, rfl⟩ <;> kernel_rfl
theorem s5_36 : (p5 par blk i).slot 36 = .box 960 0 := by
  rcases hp with rfl | ⟨cs, rfl⟩ <;> kernel_rfl
theorem s5_38 : (p5 par blk i).slot 38 = .seq 155 ((blk.getD i .top).cell 7).toL := by
  rcases hp with rfl | ⟨cs, rfl⟩ <;> kernel_rfl
theorem s7_42 : (p7 par blk i true).slot 42 = .bool false := by
  rcases hp with rfl | ⟨cs, rfl⟩ <;> kernel_rfl
theorem refs9 : ((g4 par blk i).ob 960).refs = [] := by
  rcases hp with rfl | ⟨cs, rfl⟩ <;> kernel_rfl
/-- The place, as it is handed on. -/
theorem placeTree : toTree T (g4 par blk i).ob treeFuel (.box 960 0) = .pref (par :: ((etaT (T 155) (blk.getD i .top)).cells ++ [.seq 155 blk, .int .i64 i])) := by
  rcases hp with rfl | ⟨cs, rfl⟩ <;> kernel_rfl
end
/- Where the loop does not go on: nothing is known but the truths. -/
def EB : Env := { EV with glob := fun _ => .top }
theorem hCB : ∀ g, Holds EB.ty EB.glob Tryz.prog g (EB.C g) := fun g args objs out h => by simp [EB, EV, Tr.eval] at h
def bare (l : List (Nat × V)) : St := ⟨ofList .top l, fun _ => .dead, 0⟩
noncomputable def runB (l : List Nat) (s : St) : Option Rg := (stepOps EB false noHint (ro 5).toList 1280 l s).eval
noncomputable def skipB (d : Nat) (s : St) : St := { s with slot := putO s.slot (some d) (.tup []) }
noncomputable def bA : St := goE (runB [3, 4, 5, 6, 7, 8] (bare [(25, .bool false)]))
noncomputable def bB : St := goE (runB [10, 11, 12, 13, 14, 15, 16] (skipB 32 bA))
noncomputable def bC : St := goE (runB [18, 19] (skipB 40 bB))
noncomputable def bD : St := goE (runB [10, 11, 12, 13, 14, 15, 16] (bare [(27, .bool false), (32, .bool false)]))
noncomputable def bE : St := goE (runB [18, 19] (skipB 40 bD))
noncomputable def bF : St := goE (runB [18, 19] (bare [(35, .bool false), (40, .bool false)]))
theorem bA_run : runB [3, 4, 5, 6, 7, 8] (bare [(25, .bool false)]) = some (.go bA) := by kernel_rfl
theorem bB_run : runB [10, 11, 12, 13, 14, 15, 16] (skipB 32 bA) = some (.go bB) := by kernel_rfl
theorem bC_run : runB [18, 19] (skipB 40 bB) = some (.go bC) := by kernel_rfl
theorem bD_run : runB [10, 11, 12, 13, 14, 15, 16] (bare [(27, .bool false), (32, .bool false)]) = some (.go bD) := by kernel_rfl
theorem bE_run : runB [18, 19] (skipB 40 bD) = some (.go bE) := by kernel_rfl
theorem bF_run : runB [18, 19] (bare [(35, .bool false), (40, .bool false)]) = some (.go bF) := by kernel_rfl
theorem bA_s : bA.slot 27 = .bool true ∧ bA.ob = fun _ => .dead := ⟨by kernel_rfl, by kernel_rfl⟩
theorem bB_s : bB.slot 35 = .bool true ∧ bB.ob = fun _ => .dead := ⟨by kernel_rfl, by kernel_rfl⟩
theorem bC_s : bC.slot 42 = .bool true := by kernel_rfl
theorem bD_s : bD.slot 35 = .bool true ∧ bD.ob = fun _ => .dead := ⟨by kernel_rfl, by kernel_rfl⟩
theorem bE_s : bE.slot 42 = .bool true := by kernel_rfl
theorem bF_s : bF.slot 42 = .bool true := by kernel_rfl
end Go.Proofs.YtpngkkalomiggaaGreatDoor

namespace Go.Proofs.YtpngkkalomiggaaGreatDoor
open Go Go.AH Go.RowKit
noncomputable def oq (j : Nat) : Oper := ((ro 5)[j]?).getD default
theorem oq0 : (ro 5)[0]? = some (oq 0) ∧ (oq 0).op = .move (.tmp 2) ∧ (oq 0).dst = some 23 ∧ (oq 0).guard = none := ⟨by kernel_rfl, by kernel_rfl, by kernel_rfl, by kernel_rfl⟩
theorem oq2 : (ro 5)[2]? = some (oq 2) ∧ (oq 2).op = .call ⟨.value (.tmp 23), #[.tmp 24], #[215]⟩ ∧ (oq 2).dst = some 25 ∧ (oq 2).guard = none := ⟨by kernel_rfl, by kernel_rfl, by kernel_rfl, by kernel_rfl⟩
theorem oq8 : (ro 5)[8]? = some (oq 8) ∧ (oq 8).op = .move (.tmp 2) ∧ (oq 8).dst = some 31 ∧ (oq 8).guard = some (4, false) := ⟨by kernel_rfl, by kernel_rfl, by kernel_rfl, by kernel_rfl⟩
theorem oq9 : (ro 5)[9]? = some (oq 9) ∧ (oq 9).op = .call ⟨.value (.func 163), #[.tmp 28, .tmp 30, .tmp 31], #[215, 104, 262]⟩ ∧ (oq 9).dst = some 32 ∧ (oq 9).guard = some (4, false) := ⟨by kernel_rfl, by kernel_rfl, by kernel_rfl, by kernel_rfl⟩
theorem oq16 : (ro 5)[16]? = some (oq 16) ∧ (oq 16).op = .move (.tmp 2) ∧ (oq 16).dst = some 39 ∧ (oq 16).guard = some (12, false) := ⟨by kernel_rfl, by kernel_rfl, by kernel_rfl, by kernel_rfl⟩
theorem oq17 : (ro 5)[17]? = some (oq 17) ∧ (oq 17).op = .call ⟨.value (.func 163), #[.tmp 36, .tmp 38, .tmp 39], #[215, 104, 262]⟩ ∧ (oq 17).dst = some 40 ∧ (oq 17).guard = some (12, false) := ⟨by kernel_rfl, by kernel_rfl, by kernel_rfl, by kernel_rfl⟩
def pins : List Nat := [0, 1, 2, 10, 11, 12]
def allFree (ops : Array Oper) (l : List Nat) : Bool := l.all fun j => match ops[j]? with | some o => free pins o | none => false
theorem allFree_spec {ops : Array Oper} {l : List Nat} (h : allFree ops l = true) : ∀ j ∈ l, ∃ o, ops[j]? = some o ∧ free pins o = true := by
  intro j hj
  have h1 := List.all_eq_true.1 h j hj
  cases ho : ops[j]? with
  | none => rw [ho] at h1; cases h1
  | some o => rw [ho] at h1; exact ⟨o, rfl, h1⟩
theorem d0 : dstOk 44 (ro 0) = true := by kernel_rfl
theorem d1 : dstOk 44 (ro 1) = true := by kernel_rfl
theorem d2 : dstOk 44 (ro 2) = true := by kernel_rfl
theorem d3 : dstOk 44 (ro 3) = true := by kernel_rfl
theorem d4 : dstOk 44 (ro 4) = true := by kernel_rfl
theorem d5 : dstOk 44 (ro 5) = true := by kernel_rfl
theorem d6 : dstOk 44 (ro 6) = true := by kernel_rfl
theorem d7 : dstOk 44 (ro 7) = true := by kernel_rfl
theorem d8 : dstOk 44 (ro 8) = true := by kernel_rfl
theorem sz0 : List.range (ro 0).size = [0] := by kernel_rfl
theorem sz1 : List.range (ro 1).size = [0, 1, 2] := by kernel_rfl
theorem sz2 : List.range (ro 2).size = [0] := by kernel_rfl
theorem sz3 : List.range (ro 3).size = [0, 1, 2, 3, 4, 5] := by kernel_rfl
theorem sz4 : List.range (ro 4).size = [0, 1, 2, 3, 4, 5, 6] := by kernel_rfl
theorem sz5 : List.range (ro 5).size = [0, 1, 2, 3, 4, 5, 6, 7, 8, 9, 10, 11, 12, 13, 14, 15, 16, 17, 18, 19] := by kernel_rfl
theorem sz6 : List.range (ro 6).size = [0] := by kernel_rfl
theorem sz7 : List.range (ro 7).size = [0, 1] := by kernel_rfl
theorem sz8 : List.range (ro 8).size = [0] := by kernel_rfl
theorem hTV : TyOk Tryz.prog EV.ty := tyOk

section
variable {Z Z' Z'' : Nat → Prop} {w w' w'' : World}
theorem els_trans (h : Elsewhere Z w Z' w') (k : Elsewhere Z' w' Z'' w'') : Elsewhere Z w Z'' w'' := {
  size := Nat.le_trans h.size k.size
  same := fun b hb hz => (k.same b (Nat.lt_of_lt_of_le hb h.size) (fun hz' => by
    rcases h.new b hz' with h1 | h1
    · exact hz h1
    · omega)).trans (h.same b hb hz)
  new := fun b hz => by
    rcases k.new b hz with h1 | h1
    · exact h.new b h1
    · exact .inr (Nat.le_trans h.size h1)
  lt := k.lt }
end

section
variable (l : Nat) (items : List V) (O0 : Nat → Prop) (J : Nat → (Nat → Prop) → World → Prop) (Jx : World → Prop) (B : Nat)
def ZZ (R : Nat → Prop) : Nat → Prop := fun b => O0 b ∨ R b
structure Here (R : Nat → Prop) (X : World) : Prop where
  lt : ∀ b, ZZ O0 R b → b < X.heap.size
  gl : ∀ g, Rep T X (ZZ O0 R) (gl g) noR (.pointer (some ⟨g, 0, none⟩))
theorem Here.els {R R' : Nat → Prop} {X Y : World} (h : Here O0 R X) (e : Elsewhere (ZZ O0 R) X (ZZ O0 R') Y) : Here O0 R' Y := ⟨e.lt, fun g => Rep.kept e.kept _ _ _ _ (fun _ _ h => h) (h.gl g)⟩
def Done (k : Nat) (R : Nat → Prop) (X : World) (e : Ending) (Y : World) : Prop :=
  (e = .returned (.bool true) ∧ ∃ R', J k R' Y ∧ Elsewhere (ZZ O0 R) X (ZZ O0 R') Y) ∨ (e = .returned (.bool false) ∧ Jx Y)
structure Hyp : Prop where
  q : ∀ k R X Y, J k R X → Quiet B X Y → J k R Y
  y : ∀ m k R X vs args, items[k]? = some (.tup vs) → J k R X → RepL T X (fun b => O0 b ∨ R b) vs noR args →
      YieldAt Fence.wide m Tryz.prog l args.toArray X fun e Y => (e = .returned (.bool true) ∧ ∃ R', J (k + 1) R' Y ∧ Kp O0 R X R' Y) ∨ (e = .returned (.bool false) ∧ Jx Y)
theorem els_of_kp {R R' : Nat → Prop} {X Y : World} (h : Here O0 R X) (k : Kp O0 R X R' Y) : Elsewhere (ZZ O0 R) X (ZZ O0 R') Y := {
  size := k.size
  same := fun b hb hz => k.same b hb (fun h => hz (.inl h)) (fun h => hz (.inr h))
  new := fun b hb => by
    rcases hb with hb | hb
    · exact .inl (.inl hb)
    · exact (k.new b hb).imp .inr id
  lt := fun b hb => by
    rcases hb with hb | hb
    · exact Nat.lt_of_lt_of_le (h.lt b (.inl hb)) k.size
    · rcases k.lt b hb with h1 | h1
      · exact Nat.lt_of_lt_of_le (h.lt b (.inr h1)) k.size
      · exact h1 }
def VisitAt (N : Nat) : Prop := ∀ (par : V) (blk L : List V) (k0 : Nat) (R : Nat → Prop) (X : World) (pv bv : Value) (m : Nat), visitV N par blk 0 blk = some L → IsPar par → (∀ j v, L[j]? = some v → items[k0 + j]? = some (.tup [v])) → J k0 R X → Here O0 R X →
  Rep T X (ZZ O0 R) par noR pv → Rep T X (ZZ O0 R) (.seq 155 blk) noR bv → CallsIn Fence.wide m Tryz.prog 163 #[pv, bv, .func (.yield l) #[] #[]] X (Done O0 J Jx (k0 + L.length) R X)
end
end Go.Proofs.YtpngkkalomiggaaGreatDoor

namespace Go.Proofs.YtpngkkalomiggaaGreatDoor
open Go Go.AH Go.RowKit
def stillFree (ts : List Nat) (ops : Array Oper) (l : List Nat) : Bool := l.all fun j => match ops[j]? with | some o => free ts o && still o | none => false
theorem stillFree_spec {ts : List Nat} {ops : Array Oper} {l : List Nat} (h : stillFree ts ops l = true) : ∀ j ∈ l, ∃ o, ops[j]? = some o ∧ free ts o = true ∧ still o = true := by
  intro j hj
  have h1 := List.all_eq_true.1 h j hj
  cases ho : ops[j]? with
  | none => rw [ho] at h1; cases h1
  | some o =>
    rw [ho] at h1
    rw [Bool.and_eq_true] at h1
    exact ⟨o, rfl, h1.1, h1.2⟩
def l0 : AH.Loc := default
section
variable {k : Nat} {Q : Exit → Act → World → Prop} {a : Act} {w : World} {l2 : List Nat}
abbrev RB (s : St) (β : Nat → AH.Loc) (a : Act) (w : World) : Prop := Rel EB (fun _ => False) 44 0 ⟨false, []⟩ s β a w
theorem bare_run {l1 : List Nat} {s s' : St} {β : Nat → AH.Loc} (r : RB s β a w) (hob : s.ob = fun _ => .dead) (hnd : l1.Nodup) (hf : stillFree [] (ro 5) l1 = true) (he : runB l1 s = some (.go s')) (hQ : ∀ β' a', RB s' β' a' w → wpOpsIn Fence.wide k Tryz.prog (ro 5) Q l2 a' w) : wpOpsIn Fence.wide k Tryz.prog (ro 5) Q (l1 ++ l2) a w :=
  run_still (E := EB) (base := 1280) tyOk hCB d5 l1 s β a r hnd (stillFree_spec hf) (fun j _ i _ => by rw [hob]) he (fun β' a' r' _ _ => hQ β' a' r')
theorem bare_start {l : List (Nat × V)} (hsz : a.tmps.size = 44) (hd : a.defers = []) (hs : ∀ t, Rep T w (fun _ => False) (ofList .top l t) noR (a.tmps.getD t undef)) : RB (bare l) (fun _ => l0) a w :=
  Rel.start (E := EB) hsz hd (fun b hb => hb.elim) (fun g => trivial) hs
theorem bare_skip {s : St} {β : Nat → AH.Loc} (r : RB s β a w) {j d i g : Nat} {o : Oper} (hj : (ro 5)[j]? = some o) (hf : free [] o = true) (hdst : o.dst = some d) (hg : o.guard = some (i, false)) (hi : ((ro 5)[i]?).bind (fun o : Oper => o.dst) = some g) (hs : s.slot g = .bool true)
    (hQ : ∀ a', RB (skipB d s) β a' w → wpOpsIn Fence.wide k Tryz.prog (ro 5) Q l2 a' w) : wpOpsIn Fence.wide k Tryz.prog (ro 5) Q (j :: l2) a w := by
  refine skip_in r d5 hj hf (fun hw => ?_) (fun r' _ => ?_)
  · have := (guard_at r d5 hg hi hs).1 hw
    cases this
  · rw [hdst] at r'
    rw [hdst]
    exact hQ _ r'
theorem g4d : ((ro 5)[4]?).bind (fun o : Oper => o.dst) = some 27 := by kernel_rfl
theorem g12d : ((ro 5)[12]?).bind (fun o : Oper => o.dst) = some 35 := by kernel_rfl
theorem f9 : free [] (oq 9) = true := by kernel_rfl
theorem f17 : free [] (oq 17) = true := by kernel_rfl
theorem rep_true {s : St} {β : Nat → AH.Loc} (r : RB s β a w) {t : Nat} {b : Bool} (hs : s.slot t = .bool b) : a.tmps.getD t undef = .bool b := by
  have := r.slots t
  rw [hs] at this
  exact this
theorem bare25 (hsz : a.tmps.size = 44) (hd : a.defers = []) (h : a.tmps.getD 25 undef = .bool false) (hQ : ∀ a' : Act, a'.tmps.size = 44 → a'.defers = [] → a'.tmps.getD 42 undef = .bool true → Q .normal a' w) :
    wpOpsIn Fence.wide k Tryz.prog (ro 5) Q [3, 4, 5, 6, 7, 8, 9, 10, 11, 12, 13, 14, 15, 16, 17, 18, 19] a w := by
  have r0 : RB (bare [(25, .bool false)]) (fun _ => l0) a w := bare_start hsz hd (fun t => by
    unfold ofList
    split
    · rename_i ht
      rw [Nat.eq_of_beq_eq_true ht]
      exact h
    · trivial)
  refine bare_run (l1 := [3, 4, 5, 6, 7, 8]) r0 rfl (by decide) (by kernel_rfl) bA_run (fun β1 a1 r1 => ?_)
  refine bare_skip r1 oq9.1 f9 oq9.2.2.1 oq9.2.2.2 g4d bA_s.1 (fun a2 r2 => ?_)
  refine bare_run (l1 := [10, 11, 12, 13, 14, 15, 16]) r2 bA_s.2 (by decide) (by kernel_rfl) bB_run (fun β3 a3 r3 => ?_)
  refine bare_skip r3 oq17.1 f17 oq17.2.2.1 oq17.2.2.2 g12d bB_s.1 (fun a4 r4 => ?_)
  refine bare_run (l1 := [18, 19]) (l2 := []) r4 bB_s.2 (by decide) (by kernel_rfl) bC_run (fun β5 a5 r5 => ?_)
  exact hQ a5 r5.size r5.noDefers (rep_true r5 bC_s)
theorem bare32 (hsz : a.tmps.size = 44) (hd : a.defers = []) (h : a.tmps.getD 27 undef = .bool false) (h2 : a.tmps.getD 32 undef = .bool false) (hQ : ∀ a' : Act, a'.tmps.size = 44 → a'.defers = [] → a'.tmps.getD 42 undef = .bool true → Q .normal a' w) :
    wpOpsIn Fence.wide k Tryz.prog (ro 5) Q [10, 11, 12, 13, 14, 15, 16, 17, 18, 19] a w := by
  have r0 : RB (bare [(27, .bool false), (32, .bool false)]) (fun _ => l0) a w := bare_start hsz hd (fun t => by
    unfold ofList
    split
    · rename_i ht
      rw [Nat.eq_of_beq_eq_true ht]
      exact h
    · unfold ofList
      split
      · rename_i ht
        rw [Nat.eq_of_beq_eq_true ht]
        exact h2
      · trivial)
  refine bare_run (l1 := [10, 11, 12, 13, 14, 15, 16]) r0 rfl (by decide) (by kernel_rfl) bD_run (fun β3 a3 r3 => ?_)
  refine bare_skip r3 oq17.1 f17 oq17.2.2.1 oq17.2.2.2 g12d bD_s.1 (fun a4 r4 => ?_)
  refine bare_run (l1 := [18, 19]) (l2 := []) r4 bD_s.2 (by decide) (by kernel_rfl) bE_run (fun β5 a5 r5 => ?_)
  exact hQ a5 r5.size r5.noDefers (rep_true r5 bE_s)
theorem bare40 (hsz : a.tmps.size = 44) (hd : a.defers = []) (h : a.tmps.getD 35 undef = .bool false) (h2 : a.tmps.getD 40 undef = .bool false) (hQ : ∀ a' : Act, a'.tmps.size = 44 → a'.defers = [] → a'.tmps.getD 42 undef = .bool true → Q .normal a' w) :
    wpOpsIn Fence.wide k Tryz.prog (ro 5) Q [18, 19] a w := by
  have r0 : RB (bare [(35, .bool false), (40, .bool false)]) (fun _ => l0) a w := bare_start hsz hd (fun t => by
    unfold ofList
    split
    · rename_i ht
      rw [Nat.eq_of_beq_eq_true ht]
      exact h
    · unfold ofList
      split
      · rename_i ht
        rw [Nat.eq_of_beq_eq_true ht]
        exact h2
      · trivial)
  refine bare_run (l1 := [18, 19]) (l2 := []) r0 rfl (by decide) (by kernel_rfl) bF_run (fun β5 a5 r5 => ?_)
  exact hQ a5 r5.size r5.noDefers (rep_true r5 bF_s)
end

section
variable (O0 : Nat → Prop) (par : V) (blk : List V) (i : Nat)
/-- In the midst of a round. -/
structure Mid (W0 : World) (R0 R1 : Nat → Prop) (s : St) (β : Nat → AH.Loc) (a0 a : Act) (w : World) : Prop where
  rel : Rel EV (ZZ O0 R1) 44 0 ⟨false, []⟩ s β a w
  obs : s.ob = (g4 par blk i).ob
  els : Elsewhere (ZZ O0 R0) W0 (ZZ O0 R1) w
  fresh : ∀ j, Mine s.ob β j → W0.heap.size ≤ (β j).b
  here : Here O0 R1 w
  pin : Pin pins a0 a
end
section
variable {O0 : Nat → Prop} {par : V} {blk : List V} {i : Nat} {W0 : World} {R0 R1 R2 : Nat → Prop} {s s' : St} {β : Nat → AH.Loc} {a0 a : Act} {w w' : World} {k : Nat} {Q : Exit → Act → World → Prop} {l2 : List Nat}
theorem Mid.run (md : Mid O0 par blk i W0 R0 R1 s β a0 a w) (hdead : ∀ j, 1280 ≤ j → (g4 par blk i).ob j = .dead) {l1 : List Nat} (hnd : l1.Nodup) (hf : stillFree pins (ro 5) l1 = true) (he : run5 l1 s = some (.go s')) (ho : s'.ob = (g4 par blk i).ob)
    (hQ : ∀ β' a', Mid O0 par blk i W0 R0 R1 s' β' a0 a' w → wpOpsIn Fence.wide k Tryz.prog (ro 5) Q l2 a' w) : wpOpsIn Fence.wide k Tryz.prog (ro 5) Q (l1 ++ l2) a w := by
  refine run_still (E := EV) (base := 1280) tyOk hCV d5 l1 s β a md.rel hnd (stillFree_spec hf) (fun j _ i' hi => by rw [md.obs]; exact hdead i' (by unfold inR at hi; omega)) he (fun β' a' r' st' p' => ?_)
  refine hQ β' a' ⟨r', ho, md.els, fun j mj => ?_, md.here, md.pin.trans p'⟩
  rcases st'.fresh j mj with ⟨j', mj', e⟩ | h
  · rw [← e]
    exact md.fresh j' mj'
  · exact Nat.le_trans md.els.size h
theorem Mid.set (md : Mid O0 par blk i W0 R0 R1 s β a0 a w) {d : Nat} (hd : d < 44) (hp : pins.contains d = false) {v : V} {x : Value} (hv : Rep T w (AH.Own (ZZ O0 R1) s.ob β) v (RefRep T s.ob β) x) : Mid O0 par blk i W0 R0 R1 { s with slot := upd s.slot d v } β a0 (a.put (some d) x) w := by
  refine ⟨md.rel.set hd hv, md.obs, md.els, md.fresh, md.here, md.pin.trans ⟨put_size _ _ _, fun t ht => ?_⟩⟩
  have hne : d ≠ t := fun e => by
    subst e
    rw [List.contains_iff_mem.2 ht] at hp
    cases hp
  show (a.tmps.setIfInBounds d x).getD t undef = _
  simp only [Array.getD_eq_getD_getElem?]
  rw [Array.getElem?_setIfInBounds_ne hne]
theorem Mid.others (md : Mid O0 par blk i W0 R0 R1 s β a0 a w) (h : Elsewhere (ZZ O0 R1) w (ZZ O0 R2) w') : Mid O0 par blk i W0 R0 R2 s β a0 a w' := by
  refine ⟨md.rel.elsewhere h (fun j ha hn hz => ?_), md.obs, els_trans md.els h, md.fresh, md.here.els _ h, md.pin⟩
  cases hrw : (s.ob j).rw with
  | true => exact md.rel.cx.zown j ⟨hrw, hn⟩ hz
  | false => exact md.rel.cx.ro j ha hrw hn (.inl hz)
theorem Mid.place (hp : IsPar par) (md : Mid O0 par blk i W0 R0 R1 s β a0 a w) {t : Nat} (ht : s.slot t = .box 960 0) : Rep T w (ZZ O0 R1) (.pref (par :: ((etaT (T 155) (blk.getD i .top)).cells ++ [.seq 155 blk, .int .i64 i]))) noR (a.tmps.getD t undef) := by
  have hr := md.rel.slots t
  rw [ht] at hr
  have h1 := toTree_sound (P := Tryz.prog) (T := T) (G := gl) (Z := ZZ O0 R1) (h := s.ob) (β := β) (w := w) (view := s.ob) (O' := ZZ O0 R1) (S := [960]) tyOk md.rel.cx (fun i => .inr rfl) (fun b hb => .inl hb) (fun j hj j' hj' => by
    rw [List.mem_singleton] at hj
    subst hj
    rw [md.obs, refs9 hp] at hj'
    cases hj') (fun j _ ha hn hz => by
      cases hrw : (s.ob j).rw with
      | true => exact md.rel.cx.zown j ⟨hrw, hn⟩ hz
      | false => exact md.rel.cx.ro j ha hrw hn (.inl hz)) treeFuel (.box 960 0) _ noR (fun j hj => by simpa [V.refs] using hj) hr
  rw [md.obs, placeTree hp] at h1
  exact h1
theorem Mid.tree (md : Mid O0 par blk i W0 R0 R1 s β a0 a w) {t : Nat} {v : V} (ht : s.slot t = v) (hv : v.noRef = true) : Rep T w (ZZ O0 R1) v noR (a.tmps.getD t undef) := by
  have hr := md.rel.slots t
  rw [ht] at hr
  exact Rep.kept (Kept.less (fun b hb => .inl hb)) _ _ _ _ (fun _ _ h => h) (noRef_noR hr hv)
end
end Go.Proofs.YtpngkkalomiggaaGreatDoor

namespace Go.Proofs.YtpngkkalomiggaaGreatDoor
open Go Go.AH Go.RowKit
theorem nameV : (Tryz.f163.name == "runtime.NumGoroutine") = false := by kernel_rfl
theorem enters {P : Program} {f : FuncId} {fn : Func} {c : Code} (hf : P.funcs[f]? = some fn) (hn : (fn.name == "runtime.NumGoroutine") = false) (hb : fn.body = some c) : ∀ args w, (callFunc f args).run P w = .ok (.enter f args) w := fun args w => by
  have h1 : fn.name ≠ "runtime.NumGoroutine" := by simpa using hn
  simp [callFunc, hf, h1, hb]
theorem ent163 : ∀ args w, (callFunc 163 args).run Tryz.prog w = .ok (.enter 163 args) w := enters Tryz.func163 nameV bodyV
theorem getD_put {a : Act} {d : Nat} (h : d < a.tmps.size) (x : Value) : (a.put (some d) x).tmps.getD d undef = x := by
  rw [put_getD a (fun t ht => by cases ht; exact h), if_pos rfl]
theorem getD_put_ne {a : Act} {d t : Nat} (h : d < a.tmps.size) (hne : d ≠ t) (x : Value) : (a.put (some d) x).tmps.getD t undef = a.tmps.getD t undef := by
  rw [put_getD a (fun t ht => by cases ht; exact h), if_neg (fun e => hne (by injection e))]
section
variable {O0 : Nat → Prop} {par : V} {blk : List V} {i : Nat} {W0 : World} {R0 R1 R2 : Nat → Prop} {s s' : St} {β : Nat → AH.Loc} {a0 a : Act} {w w' : World} {k : Nat} {Q : Exit → Act → World → Prop} {l2 : List Nat}
theorem Mid.run2 (md : Mid O0 par blk i W0 R0 R1 s β a0 a w) (hdead : ∀ j, 1280 ≤ j → (g4 par blk i).ob j = .dead) {l1 : List Nat} (hnd : l1.Nodup) (d : Nat) (hf : stillFree (d :: pins) (ro 5) l1 = true) (he : run5 l1 s = some (.go s')) (ho : s'.ob = (g4 par blk i).ob)
    (hQ : ∀ β' a', Mid O0 par blk i W0 R0 R1 s' β' a0 a' w → a'.tmps.getD d undef = a.tmps.getD d undef → wpOpsIn Fence.wide k Tryz.prog (ro 5) Q l2 a' w) : wpOpsIn Fence.wide k Tryz.prog (ro 5) Q (l1 ++ l2) a w := by
  refine run_still (E := EV) (base := 1280) tyOk hCV d5 l1 s β a md.rel hnd (stillFree_spec hf) (fun j _ i' hi => by rw [md.obs]; exact hdead i' (by unfold inR at hi; omega)) he (fun β' a' r' st' p' => ?_)
  refine hQ β' a' ⟨r', ho, md.els, fun j mj => ?_, md.here, md.pin.trans ⟨p'.size, fun t ht => p'.tmps t (by simp [ht])⟩⟩ (p'.tmps d (by simp))
  rcases st'.fresh j mj with ⟨j', mj', e⟩ | h
  · rw [← e]
    exact md.fresh j' mj'
  · exact Nat.le_trans md.els.size h
end
section
variable {l : Nat} {items : List V} {O0 : Nat → Prop} {J : Nat → (Nat → Prop) → World → Prop} {Jx : World → Prop} {B : Nat}
variable {par : V} (hp : IsPar par) {blk : List V} {i : Nat} {W0 : World} {R0 R1 R2 : Nat → Prop} {β : Nat → AH.Loc} {a0 a : Act} {w : World} {k kk n : Nat} {Q : Exit → Act → World → Prop} {P : V} {La Lb : List V} {s s5 s7 s3 s1 : St}
def upS (s : St) (d : Nat) (v : V) : St := { s with slot := upd s.slot d v }
theorem Mid.up (md : Mid O0 par blk i W0 R0 R1 s β a0 a w) {d : Nat} (hd : d < 44) (hp : pins.contains d = false) {v : V} {x : Value} (hv : Rep T w (AH.Own (ZZ O0 R1) s.ob β) v (RefRep T s.ob β) x) : Mid O0 par blk i W0 R0 R1 (upS s d v) β a0 (a.put (some d) x) w := md.set hd hp hv
theorem Mid.truth (md : Mid O0 par blk i W0 R0 R1 s β a0 a w) {t : Nat} {b : Bool} (h : s.slot t = .bool b) : a.tmps.getD t undef = .bool b := by
  have := md.rel.slots t
  rw [h] at this
  exact this
include hp in
theorem part3 (hdead : ∀ j, 1280 ≤ j → (g4 par blk i).ob j = .dead) (hP : P = .pref (par :: ((etaT (T 155) (blk.getD i .top)).cells ++ [.seq 155 blk, .int .i64 i]))) (hPp : IsPar P)
    (hy : a0.tmps.getD 2 undef = .func (.yield l) #[] #[]) (md : Mid O0 par blk i W0 R0 R1 s β a0 a w) {l7 : List V}
    (e5 : run5 [10, 11, 12, 13, 14, 15] s = some (.go s5)) (o5 : s5.ob = (g4 par blk i).ob) (s35 : s5.slot 35 = .bool false) (s36 : s5.slot 36 = .box 960 0) (s38 : s5.slot 38 = .seq 155 l7)
    (e7 : run5 [18, 19] (upS (upS s5 39 .top) 40 (.bool true)) = some (.go s7)) (o7 : s7.ob = (g4 par blk i).ob) (s42 : s7.slot 42 = .bool false)
    (hJ : J kk R1 w) (ih : VisitAt l items O0 J Jx n) (hB : visitV n P l7 0 l7 = some Lb) (hiB : ∀ j v, Lb[j]? = some v → items[kk + j]? = some (.tup [v]))
    (hT : ∀ (a' : Act) w' R', Pin pins a0 a' → a'.defers = [] → a'.tmps.getD 42 undef = .bool false → J (kk + Lb.length) R' w' → Here O0 R' w' → Elsewhere (ZZ O0 R0) W0 (ZZ O0 R') w' → Q .normal a' w')
    (hF : ∀ (a' : Act) w', a'.tmps.size = 44 → a'.defers = [] → a'.tmps.getD 42 undef = .bool true → Jx w' → Q .normal a' w') :
    wpOpsIn Fence.wide k Tryz.prog (ro 5) Q [10, 11, 12, 13, 14, 15, 16, 17, 18, 19] a w := by
  refine md.run hdead (l1 := [10, 11, 12, 13, 14, 15]) (by decide) (by kernel_rfl) e5 o5 (fun β5 a5 md5 => ?_)
  refine move_in oq16.1 oq16.2.1 ((guard_at md5.rel d5 oq16.2.2.2 g12d s35).2 rfl) ?_
  rw [oq16.2.2.1]
  have h2'' : a5.eval (.tmp 2) = .func (.yield l) #[] #[] := (md5.pin.tmps 2 (by decide)).trans hy
  have md5' := md5.up (d := 39) (by decide) (by decide) (v := .top) (x := a5.eval (.tmp 2)) trivial
  have h39 : (a5.put (some 39) (a5.eval (.tmp 2))).tmps.getD 39 undef = .func (.yield l) #[] #[] := (getD_put (by rw [md5.rel.size]; decide) _).trans h2''
  obtain ⟨b5, hb5⟩ : ∃ b5, b5 = a5.put (some 39) (a5.eval (.tmp 2)) := ⟨_, rfl⟩
  rw [← hb5] at md5' h39 ⊢
  have u35 : (upS s5 39 .top).slot 35 = .bool false := s35
  have u36 : (upS s5 39 .top).slot 36 = .box 960 0 := s36
  have u38 : (upS s5 39 .top).slot 38 = .seq 155 l7 := s38
  have hpl5 := md5'.place hp u36
  rw [← hP] at hpl5
  have hbl5 := md5'.tree u38 rfl
  have hcall := ih P l7 Lb kk R1 w _ _ (k - 1) hB hPp hiB hJ md5'.here hpl5 hbl5
  have hargs : (#[Operand.tmp 36, .tmp 38, .tmp 39].map b5.eval) = #[b5.tmps.getD 36 undef, b5.tmps.getD 38 undef, .func (.yield l) #[] #[]] := by
    rw [← h39]
    simp [Act.eval]
  rw [← hargs] at hcall
  refine enter_in oq17.1 oq17.2.1 rfl ((guard_at md5'.rel d5 oq17.2.2.2 g12d u35).2 rfl) ent163 hcall (fun e w3 he => ?_)
  have h35 := md5'.truth u35
  rw [oq17.2.2.1]
  rcases he with ⟨rfl, R3, hJ3, hel3⟩ | ⟨rfl, hjx⟩
  · refine ⟨_, rfl, ?_⟩
    have md6 := (md5'.others hel3).up (d := 40) (by decide) (by decide) (v := .bool true) (x := .bool true) rfl
    refine md6.run hdead (l1 := [18, 19]) (l2 := []) (by decide) (by kernel_rfl) e7 o7 (fun β7 a7 md7 => ?_)
    exact hT a7 w3 R3 md7.pin md7.rel.noDefers (md7.truth s42) hJ3 md7.here md7.els
  · exact ⟨_, rfl, bare40 (by rw [put_size]; exact md5'.rel.size) (by rw [put_defers]; exact md5'.rel.noDefers) ((getD_put_ne (by rw [md5'.rel.size]; decide) (by decide) _).trans h35) (getD_put (by rw [md5'.rel.size]; decide) _) (fun a' q1 q2 q3 => hF a' w3 q1 q2 q3 hjx)⟩
include hp in
theorem part2 (hdead : ∀ j, 1280 ≤ j → (g4 par blk i).ob j = .dead) (hP : P = .pref (par :: ((etaT (T 155) (blk.getD i .top)).cells ++ [.seq 155 blk, .int .i64 i]))) (hPp : IsPar P)
    (hy : a0.tmps.getD 2 undef = .func (.yield l) #[] #[]) (md : Mid O0 par blk i W0 R0 R1 s β a0 a w) {l6 : List V}
    (e3 : run5 [3, 4, 5, 6, 7] s = some (.go s3)) (o3 : s3.ob = (g4 par blk i).ob) (s27 : s3.slot 27 = .bool false) (s28 : s3.slot 28 = .box 960 0) (s30 : s3.slot 30 = .seq 155 l6)
    (hJ : J kk R1 w) (ih : VisitAt l items O0 J Jx n) (hA : visitV n P l6 0 l6 = some La) (hiA : ∀ j v, La[j]? = some v → items[kk + j]? = some (.tup [v]))
    (hK : ∀ β4 a4 w4 R4, Mid O0 par blk i W0 R0 R4 (upS (upS s3 31 .top) 32 (.bool true)) β4 a0 a4 w4 → J (kk + La.length) R4 w4 → wpOpsIn Fence.wide k Tryz.prog (ro 5) Q [10, 11, 12, 13, 14, 15, 16, 17, 18, 19] a4 w4)
    (hF : ∀ (a' : Act) w', a'.tmps.size = 44 → a'.defers = [] → a'.tmps.getD 42 undef = .bool true → Jx w' → Q .normal a' w') :
    wpOpsIn Fence.wide k Tryz.prog (ro 5) Q [3, 4, 5, 6, 7, 8, 9, 10, 11, 12, 13, 14, 15, 16, 17, 18, 19] a w := by
  refine md.run hdead (l1 := [3, 4, 5, 6, 7]) (by decide) (by kernel_rfl) e3 o3 (fun β3 a3 md3 => ?_)
  refine move_in oq8.1 oq8.2.1 ((guard_at md3.rel d5 oq8.2.2.2 g4d s27).2 rfl) ?_
  rw [oq8.2.2.1]
  have h2' : a3.eval (.tmp 2) = .func (.yield l) #[] #[] := (md3.pin.tmps 2 (by decide)).trans hy
  have md3' := md3.up (d := 31) (by decide) (by decide) (v := .top) (x := a3.eval (.tmp 2)) trivial
  have h31 : (a3.put (some 31) (a3.eval (.tmp 2))).tmps.getD 31 undef = .func (.yield l) #[] #[] := (getD_put (by rw [md3.rel.size]; decide) _).trans h2'
  obtain ⟨b3, hb3⟩ : ∃ b3, b3 = a3.put (some 31) (a3.eval (.tmp 2)) := ⟨_, rfl⟩
  rw [← hb3] at md3' h31 ⊢
  have u27 : (upS s3 31 .top).slot 27 = .bool false := s27
  have u28 : (upS s3 31 .top).slot 28 = .box 960 0 := s28
  have u30 : (upS s3 31 .top).slot 30 = .seq 155 l6 := s30
  have hpl3 := md3'.place hp u28
  rw [← hP] at hpl3
  have hbl3 := md3'.tree u30 rfl
  have hcall := ih P l6 La kk R1 w _ _ (k - 1) hA hPp hiA hJ md3'.here hpl3 hbl3
  have hargs : (#[Operand.tmp 28, .tmp 30, .tmp 31].map b3.eval) = #[b3.tmps.getD 28 undef, b3.tmps.getD 30 undef, .func (.yield l) #[] #[]] := by
    rw [← h31]
    simp [Act.eval]
  rw [← hargs] at hcall
  refine enter_in oq9.1 oq9.2.1 rfl ((guard_at md3'.rel d5 oq9.2.2.2 g4d u27).2 rfl) ent163 hcall (fun e w2 he => ?_)
  have h27 := md3'.truth u27
  rw [oq9.2.2.1]
  rcases he with ⟨rfl, R2, hJ2, hel⟩ | ⟨rfl, hjx⟩
  · exact ⟨_, rfl, hK _ _ w2 R2 ((md3'.others hel).up (d := 32) (by decide) (by decide) (v := .bool true) (x := .bool true) rfl) hJ2⟩
  · exact ⟨_, rfl, bare32 (by rw [put_size]; exact md3'.rel.size) (by rw [put_defers]; exact md3'.rel.noDefers) ((getD_put_ne (by rw [md3'.rel.size]; decide) (by decide) _).trans h27) (getD_put (by rw [md3'.rel.size]; decide) _) (fun a' q1 q2 q3 => hF a' w2 q1 q2 q3 hjx)⟩
include hp in
theorem part1 (hyp : Hyp l items O0 J Jx B) (hdead : ∀ j, 1280 ≤ j → (g4 par blk i).ob j = .dead) (hP : P = .pref (par :: ((etaT (T 155) (blk.getD i .top)).cells ++ [.seq 155 blk, .int .i64 i])))
    (hy : a0.tmps.getD 2 undef = .func (.yield l) #[] #[]) (md : Mid O0 par blk i W0 R0 R1 s β a0 a w)
    (e1 : run5 [1] (upS s 23 .top) = some (.go s1)) (o1 : s1.ob = (g4 par blk i).ob) (s24 : s1.slot 24 = .box 960 0)
    (hJ : J kk R1 w) (hit : items[kk]? = some (.tup [P]))
    (hK : ∀ β4 a4 w4 R4, Mid O0 par blk i W0 R0 R4 (upS s1 25 (.bool true)) β4 a0 a4 w4 → J (kk + 1) R4 w4 → wpOpsIn Fence.wide k Tryz.prog (ro 5) Q [3, 4, 5, 6, 7, 8, 9, 10, 11, 12, 13, 14, 15, 16, 17, 18, 19] a4 w4)
    (hF : ∀ (a' : Act) w', a'.tmps.size = 44 → a'.defers = [] → a'.tmps.getD 42 undef = .bool true → Jx w' → Q .normal a' w') :
    wpOpsIn Fence.wide k Tryz.prog (ro 5) Q [0, 1, 2, 3, 4, 5, 6, 7, 8, 9, 10, 11, 12, 13, 14, 15, 16, 17, 18, 19] a w := by
  refine move_in oq0.1 oq0.2.1 (wanted_none oq0.2.2.2) ?_
  rw [oq0.2.2.1]
  have h2 : a.eval (.tmp 2) = .func (.yield l) #[] #[] := (md.pin.tmps 2 (by decide)).trans hy
  have md0 := md.up (d := 23) (by decide) (by decide) (v := .top) (x := a.eval (.tmp 2)) trivial
  have h23 : (a.put (some 23) (a.eval (.tmp 2))).tmps.getD 23 undef = .func (.yield l) #[] #[] := (getD_put (by rw [md.rel.size]; decide) _).trans h2
  refine md0.run2 hdead (l1 := [1]) (by decide) 23 (by kernel_rfl) e1 o1 (fun β1 a1 md1 h23' => ?_)
  rw [h23] at h23'
  have hpl := md1.place hp s24
  rw [← hP] at hpl
  have hcall := hyp.y (k - 1) kk R1 w [P] [a1.tmps.getD 24 undef] hit hJ ⟨_, [], rfl, hpl, rfl⟩
  have hargs : (#[Operand.tmp 24].map a1.eval) = [a1.tmps.getD 24 undef].toArray := by simp [Act.eval]
  rw [← hargs] at hcall
  refine yield_in oq2.1 oq2.2.1 rfl (wanted_none oq2.2.2.2) h23' hcall (fun e w1 he => ?_)
  rw [oq2.2.2.1]
  rcases he with ⟨rfl, R', hJ1, hkp⟩ | ⟨rfl, hjx⟩
  · exact ⟨_, rfl, hK _ _ w1 R' ((md1.others (els_of_kp _ md1.here hkp)).up (d := 25) (by decide) (by decide) (v := .bool true) (x := .bool true) rfl) hJ1⟩
  · exact ⟨_, rfl, bare25 (by rw [put_size]; exact md1.rel.size) (by rw [put_defers]; exact md1.rel.noDefers) (getD_put (by rw [md1.rel.size]; decide) _) (fun a' q1 q2 q3 => hF a' w1 q1 q2 q3 hjx)⟩
include hp in
theorem calls_in (hyp : Hyp l items O0 J Jx B) (hdead : ∀ j, 1280 ≤ j → (g4 par blk i).ob j = .dead)
    (md : Mid O0 par blk i W0 R0 R1 (g4 par blk i) β a0 a w) (hy : a0.tmps.getD 2 undef = .func (.yield l) #[] #[]) (hJ : J kk R1 w) (hP : P = .pref (par :: ((etaT (T 155) (blk.getD i .top)).cells ++ [.seq 155 blk, .int .i64 i])))
    (hit : items[kk]? = some (.tup [P])) (ih : VisitAt l items O0 J Jx n) (hA : visitV n P ((blk.getD i .top).cell 6).toL 0 ((blk.getD i .top).cell 6).toL = some La) (hB : visitV n P ((blk.getD i .top).cell 7).toL 0 ((blk.getD i .top).cell 7).toL = some Lb)
    (hiA : ∀ j v, La[j]? = some v → items[kk + 1 + j]? = some (.tup [v])) (hiB : ∀ j v, Lb[j]? = some v → items[kk + 1 + La.length + j]? = some (.tup [v]))
    (hT : ∀ (a' : Act) w' R', Pin pins a0 a' → a'.defers = [] → a'.tmps.getD 42 undef = .bool false → J (kk + 1 + La.length + Lb.length) R' w' → Here O0 R' w' → Elsewhere (ZZ O0 R0) W0 (ZZ O0 R') w' → Q .normal a' w')
    (hF : ∀ (a' : Act) w', a'.tmps.size = 44 → a'.defers = [] → a'.tmps.getD 42 undef = .bool true → Jx w' → Q .normal a' w') :
    wpOpsIn Fence.wide k Tryz.prog (ro 5) Q (List.range (ro 5).size) a w := by
  rw [sz5]
  have hPp : IsPar P := .inr ⟨_, hP⟩
  refine part1 hp hyp hdead hP hy md (r1 hp blk i) (ob1 hp blk i) (s1_24 hp blk i) hJ hit (fun β4 a4 w4 R4 md4 hJ4 => ?_) hF
  refine part2 hp hdead hP hPp hy md4 (r3 hp blk i) (ob3 hp blk i) (s3_27 hp blk i) (s3_28 hp blk i) (s3_30 hp blk i) hJ4 ih hA hiA (fun β5 a5 w5 R5 md5 hJ5 => ?_) hF
  exact part3 hp hdead hP hPp hy md5 (r5 hp blk i) (ob5 hp blk i) (s5_35 hp blk i) (s5_36 hp blk i) (s5_38 hp blk i) (r7 hp blk i) (ob7 hp blk i) (s7_42 hp blk i) hJ5 ih hB hiB hT hF
end
end Go.Proofs.YtpngkkalomiggaaGreatDoor

namespace Go.Proofs.YtpngkkalomiggaaGreatDoor
open Go Go.AH Go.RowKit
section
variable {P : Program} {w : World} {a : Act} {ops : Array Oper}
theorem assign_in {k : Nat} {Q : Exit → Act → World → Prop} {j : Nat} {l : List Nat} {o : Oper} {x : Operand} (hj : ops[j]? = some o) (ho : o.op = .assign x) (hw : Wanted ops o a)
    (h : wpOpsIn Fence.wide k P ops Q l (a.put o.dst (a.eval x)) w) : wpOpsIn Fence.wide k P ops Q (j :: l) a w := by
  unfold wpOpsIn
  rw [hj]
  simp only
  unfold Wanted at hw
  rw [if_pos hw]
  refine ⟨fun f _ => trivial, ?_⟩
  have hrun : (o.semAt Fence.wide.round a.eval).run P w = .ok (.value (a.eval x)) w := by
    show (execOp a.eval o).run P w = _
    simp [execOp, ho]
  rw [hrun]
  exact h
end
noncomputable def oa (k : Nat) : Oper := ((ro k)[0]?).getD default
theorem oa0 : (ro 0)[0]? = some (oa 0) ∧ (oa 0).op = .assign (.const (.bool false)) ∧ (oa 0).dst = some 6 ∧ (oa 0).guard = none := ⟨by kernel_rfl, by kernel_rfl, by kernel_rfl, by kernel_rfl⟩
theorem oa6 : (ro 6)[0]? = some (oa 6) ∧ (oa 6).op = .assign (.const (.bool false)) ∧ (oa 6).dst = some 6 ∧ (oa 6).guard = none := ⟨by kernel_rfl, by kernel_rfl, by kernel_rfl, by kernel_rfl⟩
theorem oa8 : (ro 8)[0]? = some (oa 8) ∧ (oa 8).op = .assign (.const (.bool true)) ∧ (oa 8).dst = some 6 ∧ (oa 8).guard = none := ⟨by kernel_rfl, by kernel_rfl, by kernel_rfl, by kernel_rfl⟩
theorem resV : Tryz.f163.results = #[.tmp 6] := by kernel_rfl
theorem ntV : Tryz.f163.ntmps = 44 := by kernel_rfl
/- Regions from trees alone. -/
def sl1 (blk : List V) : List (Nat × V) := [(1, .seq 155 blk)]
noncomputable def g1 (blk : List V) : St := goE (stepOps EV false noHint (ro 1).toList 0 [0, 1, 2] ⟨ofList .top (sl1 blk), fun _ => .dead, 0⟩).eval
theorem e1 (blk : List V) : (stepOps EV false noHint (ro 1).toList 0 [0, 1, 2] ⟨ofList .top (sl1 blk), fun _ => .dead, 0⟩).eval = some (.go (g1 blk)) := by kernel_rfl
theorem g1_s (blk : List V) : (g1 blk).slot 10 = .seq 155 blk ∧ (g1 blk).slot 11 = .int .i64 blk.length ∧ (g1 blk).slot 12 = .int .i64 (0 : Nat) := ⟨by kernel_rfl, by kernel_rfl, by kernel_rfl⟩
def sl2 (i n : Nat) : List (Nat × V) := [(11, .int .i64 n), (12, .int .i64 i)]
noncomputable def g2 (i n : Nat) : St := goE (stepOps EV false noHint (ro 2).toList 0 [0] ⟨ofList .top (sl2 i n), fun _ => .dead, 0⟩).eval
theorem e2 (i n : Nat) : (stepOps EV false noHint (ro 2).toList 0 [0] ⟨ofList .top (sl2 i n), fun _ => .dead, 0⟩).eval = some (.go (g2 i n)) := by kernel_rfl
theorem g2_s (i n : Nat) : (g2 i n).slot 13 = .bool (decide ((i : Int) < (n : Int))) := by kernel_rfl
def sl3 (par : V) (blk : List V) (i : Nat) : List (Nat × V) := [(0, par), (1, .seq 155 blk), (10, .seq 155 blk), (11, .int .i64 blk.length), (12, .int .i64 i)]
def sl7 (i : Nat) : List (Nat × V) := [(12, .int .i64 i)]
noncomputable def g7 (i : Nat) : St := goE (stepOps EV false noHint (ro 7).toList 0 [0, 1] ⟨ofList .top (sl7 i), fun _ => .dead, 0⟩).eval
theorem e7 (i : Nat) : (stepOps EV false noHint (ro 7).toList 0 [0, 1] ⟨ofList .top (sl7 i), fun _ => .dead, 0⟩).eval = some (.go (g7 i)) := by kernel_rfl
theorem g7_s (i : Nat) : (g7 i).slot 12 = .int .i64 (IntKind.wrap .i64 ((i : Int) + 1)) := by kernel_rfl
theorem wrap1 {i : Nat} (h : i < 100000) : IntKind.wrap .i64 ((i : Int) + 1) = ((i + 1 : Nat) : Int) := by
  have h1 := AH.wrap_small .i64 (i + 1) (Nat.ble_eq_true_of_le (by show i + 1 + 1 ≤ 9223372036854775808; omega))
  exact h1
def allF (ts : List Nat) (ops : Array Oper) (l : List Nat) : Bool := l.all fun j => match ops[j]? with | some o => free ts o | none => false
theorem allF_spec {ts : List Nat} {ops : Array Oper} {l : List Nat} (h : allF ts ops l = true) : ∀ j ∈ l, ∃ o, ops[j]? = some o ∧ free ts o = true := by
  intro j hj
  have h1 := List.all_eq_true.1 h j hj
  cases ho : ops[j]? with
  | none => rw [ho] at h1; cases h1
  | some o => rw [ho] at h1; exact ⟨o, rfl, h1⟩
section
variable {O0 : Nat → Prop} {B : Nat} {R R1 : Nat → Prop} {a : Act} {w w' : World} {k : Nat} {Q : Exit → Act → World → Prop} {l2 : List Nat} {s' : St} {β' : Nat → AH.Loc}
structure Since (O0 : Nat → Prop) (B : Nat) (R : Nat → Prop) (w : World) (s' : St) (β' : Nat → AH.Loc) (w' : World) : Prop where
  els : Elsewhere (ZZ O0 R) w (ZZ O0 R) w'
  q : Quiet B w w'
  fresh : ∀ j, Mine s'.ob β' j → w.heap.size ≤ (β' j).b
theorem since_of (hh : Here O0 R w) {h0 : Nat → Ob} (hdead : h0 = fun _ => .dead) {β : Nat → AH.Loc} (st : Stp h0 β w s'.ob β' w') : Since O0 B R w s' β' w' := by
  subst hdead
  have nm : ∀ i, ¬ Mine (fun _ => Ob.dead) β i := fun i mi => by have := mi.1; simp [Ob.rw] at this
  exact ⟨⟨st.size, fun b hb _ => st.frame b hb (fun i mi => absurd mi (nm i)), fun b h => .inl h, fun b h => Nat.lt_of_lt_of_le (hh.lt b h) st.size⟩,
    ⟨st.os, st.tape, st.output, st.size, fun b hb => .inl (st.frame b hb (fun i mi => absurd mi (nm i)))⟩,
    fun j mj => by
      rcases st.fresh j mj with ⟨i, mi, _⟩ | h
      · exact absurd mi (nm i)
      · exact h⟩
theorem reg_in {ts : List Nat} {ops : Array Oper} {lk : List Nat} {ls : List (Nat × V)} (hd : dstOk 44 ops = true) (hf : allF ts ops lk = true) (hnd : lk.Nodup) (he : (stepOps EV false noHint ops.toList 0 lk ⟨ofList .top ls, fun _ => .dead, 0⟩).eval = some (.go s'))
    (hh : Here O0 R w) (hsz : a.tmps.size = 44) (hdf : a.defers = []) (hs : ∀ t, Rep T w (ZZ O0 R) (ofList .top ls t) noR (a.tmps.getD t undef))
    (hQ : ∀ β' a' w', Rel EV (ZZ O0 R) 44 0 ⟨false, []⟩ s' β' a' w' → Stp (fun _ => .dead) (fun _ => l0) w s'.ob β' w' → (∀ i, (∀ j ∈ lk, ¬ inR 0 j i) → s'.ob i = .dead) → Pin ts a a' → wpOpsIn Fence.wide k Tryz.prog ops Q l2 a' w') :
    wpOpsIn Fence.wide k Tryz.prog ops Q (lk ++ l2) a w := by
  have r0 : Rel EV (ZZ O0 R) 44 0 ⟨false, []⟩ ⟨ofList .top ls, fun _ => .dead, 0⟩ (fun _ => l0) a w := Rel.start (E := EV) hsz hdf hh.lt hh.gl hs
  exact runs_in (E := EV) (base := 0) tyOk hCV hd lk _ _ a w r0 hnd (allF_spec hf) (fun j _ i _ => rfl) he (fun β' a' w' r' st' d' p' => hQ β' a' w' r' st' (fun i hi => d' i rfl hi) p')
theorem slots2 {t1 : Nat} {v1 : V} {t2 : Nat} {v2 : V} (h1 : Rep T w (ZZ O0 R) v1 noR (a.tmps.getD t1 undef)) (h2 : Rep T w (ZZ O0 R) v2 noR (a.tmps.getD t2 undef)) : ∀ t, Rep T w (ZZ O0 R) (ofList .top [(t1, v1), (t2, v2)] t) noR (a.tmps.getD t undef) := by
  intro t
  unfold ofList
  split
  · rename_i ht
    rw [Nat.eq_of_beq_eq_true ht]
    exact h1
  · unfold ofList
    split
    · rename_i ht
      rw [Nat.eq_of_beq_eq_true ht]
      exact h2
    · trivial
theorem slots_all {l : List (Nat × V)} (h : ∀ p ∈ l, Rep T w (ZZ O0 R) p.2 noR (a.tmps.getD p.1 undef)) : ∀ t, Rep T w (ZZ O0 R) (ofList .top l t) noR (a.tmps.getD t undef) := by
  intro t
  induction l with
  | nil => exact trivial
  | cons p l ih =>
    unfold ofList
    split
    · rename_i ht
      rw [Nat.eq_of_beq_eq_true ht]
      exact h p (by simp)
    · exact ih (fun q hq => h q (by simp [hq]))
end
theorem RepSeq.form {w : World} {O : Nat → Prop} {t b : Nat} : ∀ {vs : List V} {o : Nat}, RepSeq T w O vs t b o → ∀ v ∈ vs, etaT (T t) v = v
  | [], _, _, v, hv => by cases hv
  | x :: vs, o, h, v, hv => by
    rcases List.mem_cons.1 hv with rfl | hv
    · exact h.1.2
    · exact RepSeq.form h.2.2 v hv
theorem seq_form {w : World} {O : Nat → Prop} {blk : List V} {x : Value} (h : Rep T w O (.seq 155 blk) noR x) : ∀ v ∈ blk, etaT (T 155) v = v := by
  obtain ⟨a, cap, _, _, h2⟩ := h
  rcases h2 with rfl | ⟨b, o, _, _, _, h3⟩
  · intro v hv; cases hv
  · exact RepSeq.form h3
theorem visit_len : ∀ {N : Nat} {par : V} {blk : List V} {i : Nat} {r L : List V}, visitV N par blk i r = some L → r.length < N
  | 0, _, _, _, _, _, h => by simp [visitV] at h
  | N + 1, par, blk, i, [], L, h => by simp
  | N + 1, par, blk, i, s :: r, L, h => by
    unfold visitV at h
    split at h
    · rename_i a b c h1 h2 h3
      have := visit_len h3
      simpa using this
    · cases h
section
variable {l : Nat} {items : List V} {O0 : Nat → Prop} {J : Nat → (Nat → Prop) → World → Prop} {Jx : World → Prop} {B : Nat}
/-- At a round's head. -/
structure Head (l : Nat) (O0 : Nat → Prop) (J : Nat → (Nat → Prop) → World → Prop) (par : V) (blk : List V) (X : World) (R : Nat → Prop) (i kk : Nat) (R1 : Nat → Prop) (a : Act) (w : World) : Prop where
  hsz : a.tmps.size = 44
  hdf : a.defers = []
  t0 : Rep T w (ZZ O0 R1) par noR (a.tmps.getD 0 undef)
  t1 : Rep T w (ZZ O0 R1) (.seq 155 blk) noR (a.tmps.getD 1 undef)
  t2 : a.tmps.getD 2 undef = .func (.yield l) #[] #[]
  t10 : Rep T w (ZZ O0 R1) (.seq 155 blk) noR (a.tmps.getD 10 undef)
  t11 : a.tmps.getD 11 undef = .int .i64 blk.length
  t12 : a.tmps.getD 12 undef = .int .i64 i
  here : Here O0 R1 w
  els : Elsewhere (ZZ O0 R) X (ZZ O0 R1) w
  j : J kk R1 w
theorem pin_of {ts : List Nat} {a a' : Act} (p : Pin ts a a') {t : Nat} (h : ts.contains t = true) : a'.tmps.getD t undef = a.tmps.getD t undef := p.tmps t (by simpa using h)
/-- The way to the calls of a round. -/
theorem to_calls (hq : ∀ k R X Y, J k R X → Quiet B X Y → J k R Y) {par : V} (hp : IsPar par) {blk : List V} {X : World} {R : Nat → Prop} {i kk : Nat} {R1 : Nat → Prop} {a : Act} {w : World} {k : Nat} {Q : Exit → Act → World → Prop} {c : Code}
    (hd : Head l O0 J par blk X R i kk R1 a w) (hi : i < blk.length)
    (hK : ∀ β4 a4 w4, Mid O0 par blk i w R1 R1 (g4 par blk i) β4 a a4 w4 → (∀ j, 1280 ≤ j → (g4 par blk i).ob j = .dead) → J kk R1 w4 → c.wpIn Fence.wide k Tryz.prog Q a4 w4) :
    (Code.seq (.region 3 (ro 3) false) (.seq (.region 4 (ro 4) false) c)).wpIn Fence.wide k Tryz.prog Q a w := by
  refine wpIn_seq (wpIn_region ?_)
  rw [sz3]
  have e3' : (stepOps EV false noHint (ro 3).toList 0 [0, 1, 2, 3, 4, 5] ⟨ofList .top (sl3 par blk i), fun _ => .dead, 0⟩).eval = some (.go (g3 par blk i)) := by
    have h1 := e3 par blk i
    have h2 : (decide ((0 : Int) ≤ i) && decide ((i : Int) < (blk.length : Int))) = true := by simp; omega
    rw [h2] at h1
    show (stepOps EV false noHint (ro 3).toList 0 [0, 1, 2, 3, 4, 5] (sI par blk i)).eval = _
    rw [h1]
    rfl
  refine reg_in (ts := pins) (lk := [0, 1, 2, 3, 4, 5]) (l2 := []) d3 (by kernel_rfl) (by decide) e3' hd.here hd.hsz hd.hdf (slots_all (fun p hp' => ?_)) (fun β3 a3 w3 r3 st3 dd3 p3 => ?_)
  · simp only [sl3, List.mem_cons, List.not_mem_nil, or_false] at hp'
    rcases hp' with rfl | rfl | rfl | rfl | rfl
    · exact hd.t0
    · exact hd.t1
    · exact hd.t10
    · exact hd.t11
    · exact hd.t12
  show (Code.seq (.region 4 (ro 4) false) c).wpIn Fence.wide k Tryz.prog Q a3 w3
  refine wpIn_seq (wpIn_region ?_)
  rw [sz4]
  have e4' : (stepOps EV false noHint (ro 4).toList 640 [0, 1, 2, 3, 4, 5, 6] (g3 par blk i)).eval = some (.go (g4 par blk i)) := by
    rw [e4 hp blk i]
    rfl
  refine runs_in (E := EV) (base := 640) (ts := pins) (l2 := []) tyOk hCV d4 [0, 1, 2, 3, 4, 5, 6] _ β3 a3 w3 r3 (by decide) (allF_spec (by kernel_rfl)) (fun j _ i' hi' => dd3 i' (fun j' hj' hc => ?_)) e4' (fun β4 a4 w4 r4 st4 dd4 p4 => ?_)
  · simp only [List.mem_cons, List.not_mem_nil, or_false] at hj'
    unfold inR at hi' hc
    omega
  have sn := since_of (B := B) (s' := g4 par blk i) hd.here rfl (st3.trans st4)
  show c.wpIn Fence.wide k Tryz.prog Q a4 w4
  refine hK β4 a4 w4 ⟨r4, rfl, sn.els, sn.fresh, hd.here.els _ sn.els, p3.trans p4⟩ (fun j hj => dd4 j (dd3 j (fun j' hj' hc => ?_)) (fun j' hj' hc => ?_)) (hq _ _ _ _ hd.j sn.q)
  · simp only [List.mem_cons, List.not_mem_nil, or_false] at hj'
    unfold inR at hc
    omega
  · simp only [List.mem_cons, List.not_mem_nil, or_false] at hj'
    unfold inR at hc
    omega
end
end Go.Proofs.YtpngkkalomiggaaGreatDoor

namespace Go.Proofs.YtpngkkalomiggaaGreatDoor
open Go Go.AH Go.RowKit
section
variable {l : Nat} {items : List V} {O0 : Nat → Prop} {J : Nat → (Nat → Prop) → World → Prop} {Jx : World → Prop} {B : Nat}
theorem rel_tree {R : Nat → Prop} {s : St} {β : Nat → AH.Loc} {a : Act} {w : World} (r : Rel EV (ZZ O0 R) 44 0 ⟨false, []⟩ s β a w) {t : Nat} {v : V} (ht : s.slot t = v) (hv : v.noRef = true) : Rep T w (ZZ O0 R) v noR (a.tmps.getD t undef) := by
  have hr := r.slots t
  rw [ht] at hr
  exact Rep.kept (Kept.less (fun b hb => .inl hb)) _ _ _ _ (fun _ _ h => h) (noRef_noR hr hv)
theorem Head.move {par : V} {blk : List V} {X : World} {R : Nat → Prop} {i kk kk' : Nat} {R1 R2 : Nat → Prop} {a a' : Act} {w w' : World} (hd : Head l O0 J par blk X R i kk R1 a w) (p : Pin pins a a') (hdf : a'.defers = []) (he : Elsewhere (ZZ O0 R1) w (ZZ O0 R2) w') (hj : J kk' R2 w') : Head l O0 J par blk X R i kk' R2 a' w' := {
  hsz := p.size.trans hd.hsz
  hdf := hdf
  t0 := by rw [pin_of p (by decide)]; exact Rep.kept he.kept _ _ _ _ (fun _ _ h => h) hd.t0
  t1 := by rw [pin_of p (by decide)]; exact Rep.kept he.kept _ _ _ _ (fun _ _ h => h) hd.t1
  t2 := by rw [pin_of p (by decide)]; exact hd.t2
  t10 := by rw [pin_of p (by decide)]; exact Rep.kept he.kept _ _ _ _ (fun _ _ h => h) hd.t10
  t11 := by rw [pin_of p (by decide)]; exact hd.t11
  t12 := by rw [pin_of p (by decide)]; exact hd.t12
  here := hd.here.els _ he
  els := els_trans hd.els he
  j := hj }
theorem visit_step {N : Nat} {par : V} {blk : List V} {i : Nat} {Lr : List V} (hi : i < blk.length) (h : visitV N par blk i (blk.drop i) = some Lr) : ∃ n La Lb Lc, N = n + 1 ∧
    visitV n (.pref (par :: ((blk.getD i .top).cells ++ [.seq 155 blk, .int .i64 i]))) ((blk.getD i .top).cell 6).toL 0 ((blk.getD i .top).cell 6).toL = some La ∧
    visitV n (.pref (par :: ((blk.getD i .top).cells ++ [.seq 155 blk, .int .i64 i]))) ((blk.getD i .top).cell 7).toL 0 ((blk.getD i .top).cell 7).toL = some Lb ∧
    visitV n par blk (i + 1) (blk.drop (i + 1)) = some Lc ∧ Lr = .pref (par :: ((blk.getD i .top).cells ++ [.seq 155 blk, .int .i64 i])) :: (La ++ (Lb ++ Lc)) := by
  have hg : blk.getD i .top = blk[i] := by rw [List.getD_eq_getElem?_getD, List.getElem?_eq_getElem hi]; rfl
  rw [List.drop_eq_getElem_cons hi] at h
  cases N with
  | zero => simp [visitV] at h
  | succ n =>
    unfold visitV at h
    split at h
    · rename_i a b c h1 h2 h3
      rw [hg]
      exact ⟨n, a, b, c, rfl, h1, h2, h3, by injection h with h; exact h.symm⟩
    · cases h
theorem begin_act (pv bv yv : Value) : ∃ a0 : Act, a0 = { tmps := #[pv, bv, yv] ++ Array.replicate (44 - (#[pv, bv, yv] : Array Value).size) undef, defers := [] } ∧ a0.tmps.size = 44 ∧ a0.defers = [] ∧ a0.tmps.getD 0 undef = pv ∧ a0.tmps.getD 1 undef = bv ∧ a0.tmps.getD 2 undef = yv := by
  refine ⟨_, rfl, by simp, rfl, ?_, ?_, ?_⟩ <;> simp [Array.getD_eq_getD_getElem?]
set_option maxHeartbeats 4000000 in
theorem visit_in (hyp : Hyp l items O0 J Jx B) : ∀ (N : Nat), N ≤ 1000 → VisitAt l items O0 J Jx N := by
  intro N
  induction N using Nat.strongRecOn with
  | ind N ih =>
  intro hN par blk L k0 R X pv bv m hL hp hit hJ hh hpv hbv
  refine callsIn_of_wp Tryz.func163 bodyV trivial ?_
  rw [ntV]
  obtain ⟨a0, ha0, hsz0, hdf0, t00, t01, t02⟩ := begin_act pv bv (.func (.yield l) #[] #[])
  rw [← ha0]
  clear ha0
  refine wpIn_seq (wpIn_region ?_)
  rw [sz0]
  refine assign_in oa0.1 oa0.2.1 (wanted_none oa0.2.2.2) ?_
  rw [oa0.2.2.1]
  obtain ⟨a1, ha1⟩ : ∃ a1, a1 = a0.put (some 6) (a0.eval (.const (.bool false))) := ⟨_, rfl⟩
  rw [← ha1]
  have lt6 : 6 < a0.tmps.size := by rw [hsz0]; decide
  have hsz1 : a1.tmps.size = 44 := by rw [ha1, put_size]; exact hsz0
  have hdf1 : a1.defers = [] := by rw [ha1, put_defers]; exact hdf0
  have t10 : a1.tmps.getD 0 undef = pv := by rw [ha1, getD_put_ne lt6 (by decide)]; exact t00
  have t11 : a1.tmps.getD 1 undef = bv := by rw [ha1, getD_put_ne lt6 (by decide)]; exact t01
  have t12 : a1.tmps.getD 2 undef = .func (.yield l) #[] #[] := by rw [ha1, getD_put_ne lt6 (by decide)]; exact t02
  refine wpIn_seq (wpIn_seq (wpIn_region ?_))
  rw [sz1]
  refine reg_in (ts := [0, 1, 2]) (lk := [0, 1, 2]) (l2 := []) d1 (by kernel_rfl) (by decide) (e1 blk) hh hsz1 hdf1 (slots_all (fun p hp' => by
    simp only [sl1, List.mem_singleton] at hp'
    subst hp'
    show Rep T X (ZZ O0 R) (.seq 155 blk) noR (a1.tmps.getD 1 undef)
    rw [t11]
    exact hbv)) (fun β2 a2 w2 r2 st2 dd2 p2 => ?_)
  have sn2 := since_of (B := B) hh rfl st2
  have hd2 : Head l O0 J par blk X R 0 k0 R a2 w2 := by
    obtain ⟨s10, s11, s12⟩ := g1_s blk
    refine ⟨p2.size.trans hsz1, r2.noDefers, ?_, ?_, ?_, rel_tree r2 s10 rfl, rel_tree r2 s11 rfl, rel_tree r2 s12 rfl, hh.els _ sn2.els, sn2.els, hyp.q _ _ _ _ hJ sn2.q⟩
    · rw [p2.tmps 0 (by simp), t10]
      exact Rep.kept sn2.els.kept _ _ _ _ (fun _ _ h => h) hpv
    · rw [p2.tmps 1 (by simp), t11]
      exact Rep.kept sn2.els.kept _ _ _ _ (fun _ _ h => h) hbv
    · rw [p2.tmps 2 (by simp)]
      exact t12
  refine wpIn_block (wpIn_loop (fun a w => ∃ i kk R1 Lr, i ≤ blk.length ∧ visitV (N - i) par blk i (blk.drop i) = some Lr ∧ kk + Lr.length = k0 + L.length ∧ (∀ j v, Lr[j]? = some v → items[kk + j]? = some (.tup [v])) ∧ Head l O0 J par blk X R i kk R1 a w)
    (fun a _ => match a.tmps.getD 12 undef with | .int _ n => blk.length - n.toNat | _ => 0) ⟨0, k0, R, L, Nat.zero_le _, by simpa using hL, rfl, hit, hd2⟩ ?_)
  rintro a w ⟨i, kk, R1, Lr, hi, hv, hlen, hit', hd⟩
  refine wpIn_seq (wpIn_region ?_)
  rw [sz2]
  refine reg_in (ts := pins) (lk := [0]) (l2 := []) d2 (by kernel_rfl) (by decide) (e2 i blk.length) hd.here hd.hsz hd.hdf (slots2 hd.t11 hd.t12) (fun β3 a3 w3 r3 st3 dd3 p3 => ?_)
  have sn3 := since_of (B := B) hd.here rfl st3
  have hd3 := hd.move p3 r3.noDefers sn3.els (hyp.q _ _ _ _ hd.j sn3.q)
  have h13 : a3.tmps.getD 13 undef = .bool (decide ((i : Int) < (blk.length : Int))) := rel_tree r3 (g2_s i blk.length) rfl
  have hret : ∀ (a' : Act) w' (v : Value), a'.tmps.size = 44 → a'.defers = [] → Done O0 J Jx (k0 + L.length) R X (.returned v) w' → bodyPost Tryz.prog Tryz.f163 (Done O0 J Jx (k0 + L.length) R X) .ret (a'.put (some 6) v) w' := by
    intro a' w' v hs hdf hdone
    refine ⟨by rw [put_defers]; exact hdf, v, ?_, hdone⟩
    rw [results_tmp resV, getD_put (by rw [hs]; decide)]
  by_cases hlt : i < blk.length
  · rw [decide_eq_true (by omega)] at h13
    refine wpIn_seq (wpIn_cond (t := true) h13 (wpIn_skip ?_))
    obtain ⟨n, La, Lb, Lc, hNn, hA, hB, hC, hLr⟩ := visit_step hlt hv
    have hform : etaT (T 155) (blk.getD i .top) = blk.getD i .top := by
      have hg : blk.getD i .top = blk[i] := by rw [List.getD_eq_getElem?_getD, List.getElem?_eq_getElem hlt]; rfl
      rw [hg]
      exact seq_form hd3.t1 _ (List.getElem_mem hlt)
    obtain ⟨P, hP⟩ : ∃ P, P = V.pref (par :: ((blk.getD i .top).cells ++ [.seq 155 blk, .int .i64 i])) := ⟨_, rfl⟩
    rw [← hP] at hA hB hLr
    refine wpIn_seq (wpIn_block (to_calls hyp.q hp hd3 hlt (fun β4 a4 w4 md hdead hJ4 => ?_)))
    refine wpIn_seq (wpIn_region ?_)
    subst hLr
    simp only [List.length_cons, List.length_append] at hlen
    refine calls_in (P := P) (La := La) (Lb := Lb) (n := n) hp hyp hdead md hd3.t2 hJ4 (by rw [hP, hform]) (by have := hit' 0 P rfl; simpa using this) (ih n (by omega) (by omega)) hA hB (fun j v hj => ?_) (fun j v hj => ?_) (fun a5 w5 R5 p5 hdf5 h42 hJ5 here5 els5 => ?_) (fun a5 w5 hs5 hdf5 h42 hjx => ?_)
    · have := hit' (1 + j) v (by
        rw [Nat.add_comm 1 j, List.getElem?_cons_succ, List.getElem?_append_left (List.getElem?_eq_some_iff.1 hj).1]
        exact hj)
      rw [← Nat.add_assoc] at this
      exact this
    · have := hit' (1 + (La.length + j)) v (by
        rw [Nat.add_comm 1 _, List.getElem?_cons_succ, List.getElem?_append_right (by omega), Nat.add_sub_cancel_left, List.getElem?_append_left (List.getElem?_eq_some_iff.1 hj).1]
        exact hj)
      have e : kk + 1 + La.length + j = kk + (1 + (La.length + j)) := by omega
      rw [e]
      exact this
    · refine wpIn_cond (t := false) h42 (wpIn_skip ?_)
      show (Code.region 7 (ro 7) false).wpIn Fence.wide m Tryz.prog _ a5 w5
      refine wpIn_region ?_
      rw [sz7]
      have hd5 := hd3.move p5 hdf5 els5 hJ5
      refine reg_in (ts := [0, 1, 2, 10, 11]) (lk := [0, 1]) (l2 := []) d7 (by kernel_rfl) (by decide) (e7 i) here5 hd5.hsz hd5.hdf (slots_all (fun p hp' => by
        simp only [sl7, List.mem_singleton] at hp'
        subst hp'
        exact hd5.t12)) (fun β6 a6 w6 r6 st6 dd6 p6 => ?_)
      have sn6 := since_of (B := B) here5 rfl st6
      have t12' : a6.tmps.getD 12 undef = .int .i64 ((i + 1 : Nat) : Int) := by
        have := rel_tree r6 (g7_s i) rfl
        rw [wrap1 (by omega)] at this
        exact this
      refine ⟨⟨i + 1, kk + 1 + La.length + Lb.length, R5, Lc, hlt, ?_, by omega, fun j v hj => ?_, ?_⟩, ?_⟩
      · have e : N - (i + 1) = n := by omega
        rw [e]
        exact hC
      · have := hit' (1 + (La.length + (Lb.length + j))) v (by
          rw [Nat.add_comm 1 _, List.getElem?_cons_succ, List.getElem?_append_right (by omega), Nat.add_sub_cancel_left, List.getElem?_append_right (by omega), Nat.add_sub_cancel_left]
          exact hj)
        have e : kk + 1 + La.length + Lb.length + j = kk + (1 + (La.length + (Lb.length + j))) := by omega
        rw [e]
        exact this
      · refine ⟨p6.size.trans hd5.hsz, r6.noDefers, ?_, ?_, ?_, ?_, ?_, t12', here5.els _ sn6.els, els_trans hd5.els sn6.els, hyp.q _ _ _ _ hJ5 sn6.q⟩
        · rw [p6.tmps 0 (by simp)]
          exact Rep.kept sn6.els.kept _ _ _ _ (fun _ _ h => h) hd5.t0
        · rw [p6.tmps 1 (by simp)]
          exact Rep.kept sn6.els.kept _ _ _ _ (fun _ _ h => h) hd5.t1
        · rw [p6.tmps 2 (by simp)]
          exact hd5.t2
        · rw [p6.tmps 10 (by simp)]
          exact Rep.kept sn6.els.kept _ _ _ _ (fun _ _ h => h) hd5.t10
        · rw [p6.tmps 11 (by simp)]
          exact hd5.t11
      · simp only [t12', hd.t12, Int.toNat_natCast]
        omega
    · refine wpIn_cond (t := true) h42 (wpIn_seq (wpIn_region ?_))
      rw [sz6]
      refine assign_in oa6.1 oa6.2.1 (wanted_none oa6.2.2.2) ?_
      rw [oa6.2.2.1]
      show Code.ret.wpIn Fence.wide m Tryz.prog _ _ w5
      refine wpIn_ret ?_
      exact hret a5 w5 (.bool false) hs5 hdf5 (.inr ⟨rfl, hjx⟩)
  · rw [decide_eq_false (by omega)] at h13
    refine wpIn_seq (wpIn_cond (t := false) h13 (wpIn_exit ?_))
    have hnil : blk.drop i = [] := List.drop_eq_nil_iff.2 (by omega)
    rw [hnil] at hv
    have hLr : Lr = [] := by
      cases hNi : N - i with
      | zero => rw [hNi] at hv; simp [visitV] at hv
      | succ n => rw [hNi] at hv; simp [visitV] at hv; exact hv
    subst hLr
    show (Code.seq (.region 8 (ro 8) false) .ret).wpIn Fence.wide m Tryz.prog _ a3 w3
    refine wpIn_seq (wpIn_region ?_)
    rw [sz8]
    refine assign_in oa8.1 oa8.2.1 (wanted_none oa8.2.2.2) ?_
    rw [oa8.2.2.1]
    show Code.ret.wpIn Fence.wide m Tryz.prog _ _ w3
    refine wpIn_ret ?_
    refine hret a3 w3 (.bool true) hd3.hsz hd3.hdf (.inl ⟨rfl, R1, ?_, hd3.els⟩)
    have e : k0 + L.length = kk := by simpa using hlen.symm
    rw [e]
    exact hd3.j
end
end Go.Proofs.YtpngkkalomiggaaGreatDoor

namespace Go.Proofs.YtpngkkalomiggaaGreatDoor
open Go Go.AH Go.RowKit
noncomputable def rp : Array Oper := (regO 0 (Tryz.f162.body.getD .skip)).getD #[]
theorem bodyP : Tryz.f162.body = some (.region 0 rp false) := by kernel_rfl
theorem ntP : Tryz.f162.ntmps = 7 := by kernel_rfl
theorem resP162 : Tryz.f162.results = #[] := by kernel_rfl
theorem szP : List.range rp.size = [0, 1, 2, 3] := by kernel_rfl
theorem dP : dstOk 7 rp = true := by kernel_rfl
noncomputable def op (j : Nat) : Oper := (rp[j]?).getD default
theorem op2 : rp[2]? = some (op 2) ∧ (op 2).op = .move (.tmp 0) ∧ (op 2).dst = some 5 ∧ (op 2).guard = none := ⟨by kernel_rfl, by kernel_rfl, by kernel_rfl, by kernel_rfl⟩
theorem op3 : rp[3]? = some (op 3) ∧ (op 3).op = .call ⟨.value (.func 163), #[.const (.pointer none), .tmp 4, .tmp 5], #[215, 104, 262]⟩ ∧ (op 3).guard = none := ⟨by kernel_rfl, by kernel_rfl, by kernel_rfl⟩
def slP (a b c : V) (blk : List V) (e : V) : List (Nat × V) := [(1, .pref [a, b, c, .seq 155 blk, e])]
noncomputable def gP (a b c : V) (blk : List V) (e : V) : St := goE (stepOps EV false noHint rp.toList 0 [0, 1] ⟨ofList .top (slP a b c blk e), fun _ => .dead, 0⟩).eval
theorem eP (a b c : V) (blk : List V) (e : V) : (stepOps EV false noHint rp.toList 0 [0, 1] ⟨ofList .top (slP a b c blk e), fun _ => .dead, 0⟩).eval = some (.go (gP a b c blk e)) := by kernel_rfl
theorem gP_s (a b c : V) (blk : List V) (e : V) : (gP a b c blk e).slot 4 = .seq 155 blk := by kernel_rfl
theorem yield_any {P : Program} {l m m' : Nat} {args : Array Value} {W : World} {R : Ending → World → Prop} (h : YieldAt Fence.wide m P l args W R) : YieldAt Fence.wide m' P l args W R := by
  obtain ⟨fn, tmps, asg, body, h1, h2⟩ := h
  exact ⟨fn, tmps, asg, body, h1, h2.1, fun c cs _ => h2.2 c cs (room_wide _)⟩
theorem begin_actP (yv x : Value) : ∃ a0 : Act, a0 = { tmps := #[yv, x] ++ Array.replicate (7 - (#[yv, x] : Array Value).size) undef, defers := [] } ∧ a0.tmps.size = 7 ∧ a0.defers = [] ∧ a0.tmps.getD 0 undef = yv ∧ a0.tmps.getD 1 undef = x := by
  refine ⟨_, rfl, by simp, rfl, ?_, ?_⟩ <;> simp [Array.getD_eq_getD_getElem?]
theorem seq162 {a b c e : V} {blk L : List V} (hL : visitV 300 .nilp blk 0 blk = some L) {kn : Nat} {O : Nat → Prop} {w : World} {lb : Array Value} (hO : ∀ b, O b → b < w.heap.size) (hg : ∀ g, Rep T w O (gl g) noR (.pointer (some ⟨g, 0, none⟩)))
    (hlb : RepL T w O [.pref [a, b, c, .seq 155 blk, e]] noR lb.toList) : SeqAt T kn Tryz.prog 162 lb (L.map fun p => .tup [p]) O w := by
  intro l J Jx W hW hq hqx hy hJ0
  obtain ⟨x, r, hx, hrx, hr⟩ := hlb
  have hr' : r = [] := hr
  subst hr'
  have hlbx : lb = #[x] := by
    exact Array.toList_inj.1 (by simpa using hx)
  subst hlbx
  have hyp : Hyp l (L.map fun p => .tup [p]) O J Jx W.heap.size := ⟨hq, fun m k R X vs args h1 h2 h3 => yield_any ((hy k R X vs args h1 h2 h3).mono fun e Y he => he.imp id fun h => ⟨h.1, h.2.1⟩)⟩
  obtain ⟨Rz, hRz⟩ : ∃ Rz : Nat → Prop, Rz = fun b => w.heap.size ≤ b ∧ b < W.heap.size := ⟨_, rfl⟩
  rw [← hRz] at hJ0
  have hk : Kept w W O (ZZ O Rz) := ⟨hW.size, fun b hb _ => by
    rcases hW.same b hb with h | ⟨h, _⟩
    · exact h
    · omega, fun b hb hn hz => by
    rcases hz with hz | hz
    · exact hn hz
    · rw [hRz] at hz
      have := hz.1
      omega⟩
  have here : Here O Rz W := ⟨fun b hz => by
    rcases hz with hz | hz
    · exact Nat.lt_of_lt_of_le (hO b hz) hW.size
    · rw [hRz] at hz
      exact hz.2, fun g => Rep.kept hk _ _ _ _ (fun _ _ h => h) (hg g)⟩
  show CallsIn Fence.wide kn Tryz.prog 162 #[.func (.yield l) #[] #[], x] W _
  refine callsIn_of_wp Tryz.func162 bodyP trivial ?_
  rw [ntP]
  obtain ⟨a0, ha0, hsz0, hdf0, t00, t01⟩ := begin_actP (.func (.yield l) #[] #[]) x
  rw [← ha0]
  clear ha0
  refine wpIn_region ?_
  rw [szP]
  have r0 : Rel EV (ZZ O Rz) 7 0 ⟨false, []⟩ ⟨ofList .top (slP a b c blk e), fun _ => .dead, 0⟩ (fun _ => l0) a0 W := Rel.start (E := EV) hsz0 hdf0 here.lt here.gl (slots_all (fun p hp => by
    simp only [slP, List.mem_singleton] at hp
    subst hp
    show Rep T W (ZZ O Rz) (.pref [a, b, c, .seq 155 blk, e]) noR (a0.tmps.getD 1 undef)
    rw [t01]
    exact Rep.kept hk _ _ _ _ (fun _ _ h => h) hrx))
  refine run_still (E := EV) (base := 0) (ts := [0]) (l2 := [2, 3]) tyOk hCV dP [0, 1] _ _ a0 r0 (by decide) (stillFree_spec (by kernel_rfl)) (fun j _ i _ => rfl) (eP a b c blk e) (fun β1 a1 r1 st1 p1 => ?_)
  have h4 : Rep T W (ZZ O Rz) (.seq 155 blk) noR (a1.tmps.getD 4 undef) := by
    have hr := r1.slots 4
    rw [gP_s] at hr
    exact Rep.kept (Kept.less (fun b hb => .inl hb)) _ _ _ _ (fun _ _ h => h) (noRef_noR hr rfl)
  have h0 : a1.tmps.getD 0 undef = .func (.yield l) #[] #[] := (p1.tmps 0 (by simp)).trans t00
  refine move_in op2.1 op2.2.1 (wanted_none op2.2.2.2) ?_
  rw [op2.2.2.1]
  have lt5 : 5 < a1.tmps.size := by rw [r1.size]; decide
  have h3 := op3.2.1
  have hcall := visit_in hyp 300 (by decide) .nilp blk L 0 Rz W (.pointer none) (a1.tmps.getD 4 undef) (kn - 1) hL (.inl rfl) (fun j v hj => by rw [Nat.zero_add, List.getElem?_map, hj]; rfl) hJ0 here rfl h4
  have hargs : (#[Operand.const (.pointer none), .tmp 4, .tmp 5].map (a1.put (some 5) (a1.eval (.tmp 0))).eval) = #[.pointer none, a1.tmps.getD 4 undef, .func (.yield l) #[] #[]] := by
    have e4 : (a1.put (some 5) (a1.eval (.tmp 0))).tmps.getD 4 undef = a1.tmps.getD 4 undef := getD_put_ne lt5 (by decide) _
    have e5 : (a1.put (some 5) (a1.eval (.tmp 0))).tmps.getD 5 undef = .func (.yield l) #[] #[] := (getD_put lt5 _).trans h0
    rw [← e4, ← e5]
    simp [Act.eval]
  rw [← hargs] at hcall
  refine enter_in op3.1 h3 rfl (wanted_none op3.2.2) ent163 hcall (fun e w1 he => ?_)
  have fin : ∀ v, ((∃ R, J (L.map fun p => V.tup [p]).length R w1) ∨ Jx w1) → wpOpsIn Fence.wide kn Tryz.prog rp (bodyPost Tryz.prog Tryz.f162 fun e Y => (∃ v, e = .returned v) ∧ ((∃ R, J (L.map fun p => V.tup [p]).length R Y) ∨ Jx Y)) [] ((a1.put (some 5) (a1.eval (.tmp 0))).put (op 3).dst v) w1 := by
    intro v hh
    refine ⟨by rw [put_defers, put_defers]; exact r1.noDefers, .tuple #[], ?_, ⟨_, rfl⟩, hh⟩
    simp [results, resP162]
  rcases he with ⟨rfl, R', hj, _⟩ | ⟨rfl, hjx⟩
  · refine ⟨_, rfl, fin _ (.inl ⟨R', ?_⟩)⟩
    rw [List.length_map]
    simpa using hj
  · exact ⟨_, rfl, fin _ (.inr hjx)⟩
end Go.Proofs.YtpngkkalomiggaaGreatDoor
