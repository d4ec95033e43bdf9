/- A part of the proof: VisQ, VisT, VisA, VisB, VisC, LGI. -/
import Derived.Test.YtpngkkalomiggaaGreatDoorVa
import Derived.Test.YtpngkkalomiggaaGreatDoorEG
import Derived.RangeFuncNested
import Derived.Test.YtpngkkalomiggaaGreatDoorLg
import Derived.Test.YtpngkkalomiggaaGreatDoorEF
set_option linter.all false
namespace Go.Proofs.YtpngkkalomiggaaGreatDoor
open Go Go.AH Go.RowKit
def regO2 (k : Nat) : Code → Option (Array Oper)
  | .region id ops _ => (match Nat.beq id k with | true => some ops | false => none)
  | .seq a b => (match regO2 k a with | some o => some o | none => regO2 k b)
  | .cond _ a b => (match regO2 k a with | some o => some o | none => regO2 k b)
  | .rangeFunc _ _ a b => (match regO2 k a with | some o => some o | none => regO2 k b)
  | .block _ b => regO2 k b
  | .loop b => regO2 k b
  | _ => none
noncomputable def ra (k : Nat) : Array Oper := (regO2 k (Tryz.f127.body.getD .skip)).getD #[]
noncomputable def asgA : Code := .region 3 (ra 3) false
noncomputable def bodA : Code := .block 1 (.seq (.region 4 (ra 4) true) (.cond (.tmp 21) .ret .skip))
theorem bodyA : Tryz.f127.body = some (.seq (.region 0 (ra 0) false) (.seq (.seq (.region 1 (ra 1) false) (.cond (.tmp 6) .ret .skip)) (.seq (.region 2 (ra 2) false) (.block 0 (.rangeFunc (.tmp 8) #[9] asgA bodA))))) := by kernel_rfl
theorem ntA : Tryz.f127.ntmps = 22 := by kernel_rfl
theorem szA4 : (ra 4).size = 12 := by kernel_rfl
noncomputable def oz (j : Nat) : Oper := ((ra 4)[j]?).getD default
theorem oz_at (j : Nat) (h : j < 12) : (ra 4)[j]? = some (oz j) := by
  unfold oz
  have : j < (ra 4).size := by rw [szA4]; exact h
  rw [Array.getElem?_eq_getElem this]
  rfl
def opz (j : Nat) : Op := match j with
  | 0 => .load 211 (.tmp 2) | 1 => .move (.tmp 3) | 2 => .nilCheck (.tmp 11) | 3 => .fieldAddr 217 (.tmp 12) 1 | 4 => .fieldAddr 155 (.tmp 13) 1 | 5 => .load 3 (.tmp 14)
  | 6 => .move (.tmp 3) | 7 => .nilCheck (.tmp 16) | 8 => .fieldAddr 217 (.tmp 17) 1 | 9 => .load 155 (.tmp 18) | 10 => .call ⟨.value (.tmp 10), #[.tmp 15, .tmp 19], #[3, 155]⟩ | _ => .unOp .not 4 (.tmp 20)
def ozOk (j : Nat) : Prop := (oz j).op = opz j ∧ (oz j).dst = some (10 + j) ∧ (oz j).guard = none
theorem z0 : ozOk 0 := ⟨by kernel_rfl, by kernel_rfl, by kernel_rfl⟩
theorem z1 : ozOk 1 := ⟨by kernel_rfl, by kernel_rfl, by kernel_rfl⟩
theorem z2 : ozOk 2 := ⟨by kernel_rfl, by kernel_rfl, by kernel_rfl⟩
theorem z3 : ozOk 3 := ⟨by kernel_rfl, by kernel_rfl, by kernel_rfl⟩
theorem z4 : ozOk 4 := ⟨by kernel_rfl, by kernel_rfl, by kernel_rfl⟩
theorem z5 : ozOk 5 := ⟨by kernel_rfl, by kernel_rfl, by kernel_rfl⟩
theorem z6 : ozOk 6 := ⟨by kernel_rfl, by kernel_rfl, by kernel_rfl⟩
theorem z7 : ozOk 7 := ⟨by kernel_rfl, by kernel_rfl, by kernel_rfl⟩
theorem z8 : ozOk 8 := ⟨by kernel_rfl, by kernel_rfl, by kernel_rfl⟩
theorem z9 : ozOk 9 := ⟨by kernel_rfl, by kernel_rfl, by kernel_rfl⟩
theorem z10 : ozOk 10 := ⟨by kernel_rfl, by kernel_rfl, by kernel_rfl⟩
theorem z11 : ozOk 11 := ⟨by kernel_rfl, by kernel_rfl, by kernel_rfl⟩
def depz (j : Nat) : List Nat := match j with
  | 2 => [1] | 3 => [2] | 4 => [3] | 5 => [4] | 7 => [6] | 8 => [7] | 9 => [8] | 10 => [0, 5, 9] | 11 => [10] | _ => []
theorem dep1 (md : Region.Mode) : ((List.range 12).all fun j => (depz j).all fun d => (oz j).after.toList.any fun e => Region.binds md e && Nat.beq e.on d) = true := by cases md <;> kernel_rfl
theorem dep2 (md : Region.Mode) : ((List.range 12).all fun j => (oz j).after.all fun e => !Region.binds md e || (depz j).contains e.on) = true := by cases md <;> kernel_rfl
theorem rdy_dep {md : Region.Mode} {listed : Array Bool} {i : Nat} (h : i ∈ Region.ready md (ra 4) listed) : i < 12 ∧ listed.getD i true = false ∧ ∀ d ∈ depz i, listed.getD d false = true := by
  obtain ⟨h1, h2, o, h3, h4⟩ := ready_mem h
  rw [szA4] at h1
  refine ⟨h1, h2, fun d hd => ?_⟩
  rw [oz_at i h1] at h3
  injection h3 with h3
  subst h3
  have h5 := List.all_eq_true.1 (dep1 md) i (List.mem_range.2 h1)
  have h6 := List.all_eq_true.1 h5 d hd
  obtain ⟨e, he, h7⟩ := List.any_eq_true.1 h6
  rw [Bool.and_eq_true] at h7
  have := h4 e he h7.1
  rwa [Nat.eq_of_beq_eq_true h7.2] at this
theorem dep_rdy {md : Region.Mode} {listed : Array Bool} {i : Nat} (h1 : i < 12) (h2 : listed.getD i true = false) (h3 : ∀ d ∈ depz i, listed.getD d false = true) : i ∈ Region.ready md (ra 4) listed := by
  unfold Region.ready
  refine List.mem_filter.2 ⟨List.mem_range.2 (by rw [szA4]; exact h1), ?_⟩
  rw [oz_at i h1, h2]
  simp only [Bool.not_false, Bool.true_and, Option.map_some, Option.getD_some]
  have h5 := List.all_eq_true.1 (dep2 md) i (List.mem_range.2 h1)
  rw [Array.all_eq_true_iff_forall_mem] at h5 ⊢
  intro e he
  have h6 := h5 e he
  cases hb : Region.binds md e with
  | false => rfl
  | true =>
    rw [hb] at h6
    simp only [Bool.not_true, Bool.false_or] at h6 ⊢
    exact h3 _ (by simpa using h6)
def sOf (T : Ty) : List (Nat × Nat × Bool) := match T.d with | .struct g => g | _ => []
theorem T217 : (T 217).d = .struct (sOf (T 217)) ∧ (sOf (T 217))[1]? = some (1, 8, true) := ⟨by kernel_rfl, by kernel_rfl⟩
theorem T155 : (T 155).d = .struct (sOf (T 155)) ∧ (sOf (T 155))[1]? = some (1, 1, false) ∧ (T 155).ok = true ∧ (T 155).agg = true ∧ (T 155).size = 8 := ⟨by kernel_rfl, by kernel_rfl, by kernel_rfl, by kernel_rfl, by kernel_rfl⟩
theorem T3 : (T 3).ok = true ∧ (T 3).agg = false := ⟨by kernel_rfl, by kernel_rfl⟩
theorem T211 : (T 211).ok = true ∧ (T 211).agg = false := ⟨by kernel_rfl, by kernel_rfl⟩
section
variable {F : Fence} {n : Nat} {P : Program} {ops : Array Oper} {Q : Exit → Act → World → Prop} {a : Act} {w : World}
theorem wpOp_value {i : Nat} {o : Oper} {K : Act → World → Prop} {x : Value} (hF : ∀ f, F.fn f) (hj : ops[i]? = some o) (hg : o.guard = none) (hnd : ∀ c, o.op ≠ .defer c) (hrun : (execOp a.eval o).run P w = .ok (.value x) w) (hK : K (a.put o.dst x) w) : wpOpIn F n P ops Q i K a w := by
  unfold wpOpIn
  rw [hj]
  simp only
  have hw := wanted_none (ops := ops) (a := a) hg
  unfold Wanted at hw
  rw [if_pos hw]
  refine ⟨fun f _ => hF f, ?_⟩
  rw [Oper.semAt_eq _ _ _ hnd, hrun]
  exact hK
theorem wpOp_yield {i : Nat} {o : Oper} {K : Act → World → Prop} {cl : Call} {f : Operand} {y : Nat} {R : Ending → World → Prop} (hF : ∀ f, F.fn f) (hdp : F.depth = none) (hj : ops[i]? = some o) (hg : o.guard = none) (ho : o.op = .call cl) (hf : cl.callee = .value f)
    (hv : a.eval f = .func (.yield y) #[] #[]) (hy : YieldAt F (n - 1) P y (cl.args.map a.eval) w R) (h : ∀ e w', R e w' → ∃ v, e = .returned v ∧ K (a.put o.dst v) w') : wpOpIn F n P ops Q i K a w := by
  obtain ⟨callee, args, argTypes⟩ := cl
  simp only at hf
  subst hf
  obtain ⟨fn, tmps, assign, body, hrun, hround⟩ := hy
  unfold wpOpIn
  rw [hj]
  simp only
  have hw := wanted_none (ops := ops) (a := a) hg
  unfold Wanted at hw
  rw [if_pos hw]
  refine ⟨fun f _ => hF f, ?_⟩
  have hrun2 : (o.semAt F.round a.eval).run P w = .ok (.round y fn tmps assign body) w := by
    rw [Oper.semAt_eq _ _ _ (fun c hc => by rw [ho] at hc; cases hc), ← hrun]
    simp [execOp, ho, resolve, hv, Deferred.ofValue, invoke]
  rw [hrun2]
  refine ⟨(fun hd => by rw [hdp] at hd; cases hd), hround.mono fun e w' he => ?_⟩
  obtain ⟨v, rfl, h2⟩ := h e w' he
  exact h2
end
theorem pinPut {a : Act} {o : Oper} {d : Nat} (hd : o.dst = some d) (hs : d < a.tmps.size) (x : Value) : (a.put o.dst x).tmps.getD d undef = x ∧ ∀ t, t ≠ d → (a.put o.dst x).tmps.getD t undef = a.tmps.getD t undef := by
  rw [hd]
  exact ⟨getD_put hs x, fun t ht => getD_put_ne hs (fun e => ht e.symm) x⟩
theorem getD_set (listed : Array Bool) (i j : Nat) (hi : i < listed.size) (d : Bool) : (listed.setIfInBounds i true).getD j d = (if i = j then true else listed.getD j d) := by
  simp only [Array.getD_eq_getD_getElem?]
  by_cases h : i = j
  · subst h
    rw [Array.getElem?_setIfInBounds_self_of_lt hi, if_pos rfl]
    rfl
  · rw [Array.getElem?_setIfInBounds_ne h, if_neg h]
theorem getD_bool {listed : Array Bool} {j : Nat} (h : j < listed.size) : listed.getD j true = listed.getD j false := by
  simp only [Array.getD_eq_getD_getElem?]
  rw [Array.getElem?_eq_getElem h]
  rfl
section
variable (yv : Value) (b2 b o : Nat) (x2 : Value) (ag : Value) (W0 : World) (PB : Bool → World → Prop)
def valA (j : Nat) : Value := match j with
  | 0 => yv | 3 => .pointer (some ⟨b, o + 1, none⟩) | 8 => .pointer (some ⟨b, o + 1, none⟩) | 4 => .pointer (some ⟨b, o + 1 + 1, none⟩) | 5 => x2 | 9 => ag | _ => .pointer (some ⟨b, o, none⟩)
/-- What stands where, in a round of All. -/
inductive InvA : Array Bool → Act → World → Prop
  | calls (listed : Array Bool) (a : Act) : listed.size = 12 → listed.getD 10 false = false → listed.getD 11 false = false → (∀ i, i < 12 → listed.getD i false = true → ∀ d ∈ depz i, listed.getD d false = true) → a.tmps.size = 22 → a.defers = [] →
      a.tmps.getD 2 undef = .pointer (some ⟨b2, 0, none⟩) → a.tmps.getD 3 undef = .pointer (some ⟨b, o, none⟩) → (∀ j, j < 10 → listed.getD j false = true → a.tmps.getD (10 + j) undef = valA yv b o x2 ag j) → InvA listed a W0
  | after (listed : Array Bool) (a : Act) (w : World) (t : Bool) : listed.size = 12 → (∀ j, j < 11 → listed.getD j false = true) → listed.getD 11 false = false → a.tmps.size = 22 → a.defers = [] → a.tmps.getD 20 undef = .bool t → PB t w → InvA listed a w
  | done (listed : Array Bool) (a : Act) (w : World) (t : Bool) : listed.size = 12 → (∀ j, j < 12 → listed.getD j false = true) → a.tmps.size = 22 → a.defers = [] → a.tmps.getD 21 undef = .bool !t → PB t w → InvA listed a w
end
section
variable {yv : Value} {b2 b o : Nat} {x2 : Value} {ag : Value} {W0 : World} {PB : Bool → World → Prop}
theorem InvA.size {listed : Array Bool} {a : Act} {w : World} (h : InvA yv b2 b o x2 ag W0 PB listed a w) : listed.size = 12 := by
  cases h <;> assumption
theorem invA_end {md : Region.Mode} {listed : Array Bool} {a : Act} {w : World} (h : InvA yv b2 b o x2 ag W0 PB listed a w) (hr : Region.ready md (ra 4) listed = []) : ∃ t, a.tmps.size = 22 ∧ a.defers = [] ∧ a.tmps.getD 21 undef = .bool !t ∧ PB t w := by
  have none : ∀ i, ¬ i ∈ Region.ready md (ra 4) listed := fun i hi => by rw [hr] at hi; cases hi
  cases h with
  | calls hsz h10 h11 hcl =>
    exfalso
    have all : ∀ n, n ≤ 11 → ∀ j, j < n → listed.getD j false = true := by
      intro n
      induction n with
      | zero => intro _ j hj; omega
      | succ n ih =>
        intro hn j hj
        have hlow := ih (by omega)
        by_cases hjn : j < n
        · exact hlow j hjn
        · have : j = n := by omega
          subst this
          cases hb : listed.getD j false with
          | true => rfl
          | false =>
            exfalso
            refine none j (dep_rdy (by omega) (by rw [getD_bool (by omega)]; exact hb) (fun d hd => hlow d ?_))
            have hj11 : j ≤ 10 := by omega
            have e : j = 0 ∨ j = 1 ∨ j = 2 ∨ j = 3 ∨ j = 4 ∨ j = 5 ∨ j = 6 ∨ j = 7 ∨ j = 8 ∨ j = 9 ∨ j = 10 := by omega
            rcases e with rfl | rfl | rfl | rfl | rfl | rfl | rfl | rfl | rfl | rfl | rfl <;> simp [depz] at hd <;> omega
    have := all 11 (Nat.le_refl _) 10 (by omega)
    rw [h10] at this
    cases this
  | after _ t hsz hall h11 =>
    exfalso
    refine none 11 (dep_rdy (by omega) (by rw [getD_bool (by omega)]; exact h11) (fun d hd => ?_))
    simp [depz] at hd
    subst hd
    exact hall 10 (by omega)
  | done _ t hsz hall h1 h2 h3 h4 => exact ⟨t, h1, h2, h3, h4⟩
set_option maxHeartbeats 1000000 in
theorem invA_step {l0 l : Nat} {n : Nat} {md : Region.Mode} {Q : Exit → Act → World → Prop} {c1 : Value} {cs rest : List Value} (hlies : Lies W0 b o (c1 :: cs ++ rest)) (hcs : cs.length = 8) (hx2 : cs[1]? = some x2) (hag : ag = .agg cs.toArray) (hbox : Lies W0 b2 0 [.func (.yield l0) #[] #[]]) (hyv : yv = .func (.yield l0) #[] #[])
    (hy : YieldAt (Fence.wide.inRound l) (n - 1) Tryz.prog l0 #[x2, ag] W0 fun e Y => (e = .returned (.bool true) ∧ PB true Y) ∨ (e = .returned (.bool false) ∧ PB false Y)) :
    ∀ (listed : Array Bool) (a : Act) (w : World), InvA yv b2 b o x2 ag W0 PB listed a w → ∀ i ∈ Region.ready md (ra 4) listed, wpOpIn (Fence.wide.inRound l) n Tryz.prog (ra 4) Q i (InvA yv b2 b o x2 ag W0 PB (listed.setIfInBounds i true)) a w := by
  intro listed a w h i hi
  obtain ⟨hi12, hun, hdep⟩ := rdy_dep hi
  cases h with
  | done _ t hsz hall =>
    rw [getD_bool (by omega), hall i hi12] at hun
    cases hun
  | after _ t hsz hall h11 hs hd h20 hpb =>
    have hi11 : i = 11 := by
      by_cases h : i < 11
      · rw [getD_bool (by omega), hall i h] at hun
        cases hun
      · omega
    subst hi11
    refine wpOp_value (fun f => trivial) (oz_at 11 (by omega)) z11.2.2 (fun c hc => by rw [z11.1] at hc; cases hc) (run_not z11.1 h20) ?_
    obtain ⟨q1, _⟩ := pinPut (a := a) z11.2.1 (by rw [hs]; decide) (.bool !t)
    refine .done _ _ _ t (by simpa using hsz) (fun j hj => ?_) (by rw [put_size]; exact hs) (by rw [put_defers]; exact hd) q1 hpb
    rw [getD_set _ _ _ (by omega)]
    by_cases h : 11 = j
    · rw [if_pos h]
    · rw [if_neg h]
      exact hall j (by omega)
  | calls hsz h10 h11 hcl hs hd h2 h3 hval =>
    have hne11 : i ≠ 11 := fun e => by
      subst e
      have := hdep 10 (by simp [depz])
      rw [h10] at this
      cases this
    have hpt : ∀ j, j < 10 → listed.getD j false = true → ∀ v, valA yv b o x2 ag j = v → a.eval (.tmp (10 + j)) = v := fun j hj hl v hv => (hval j hj hl).trans hv
    have stepv : ∀ j, i = j → j < 10 → ozOk j → (∀ c, opz j ≠ .defer c) → (execOp a.eval (oz j)).run Tryz.prog W0 = .ok (.value (valA yv b o x2 ag j)) W0 → wpOpIn (Fence.wide.inRound l) n Tryz.prog (ra 4) Q i (InvA yv b2 b o x2 ag W0 PB (listed.setIfInBounds i true)) a W0 := by
      intro j hij hj hz hnd hrun
      subst hij
      refine wpOp_value (fun f => trivial) (oz_at i hi12) hz.2.2 (fun c hc => by rw [hz.1] at hc; exact hnd c hc) hrun ?_
      obtain ⟨q1, q2⟩ := pinPut (a := a) hz.2.1 (by rw [hs]; omega) (valA yv b o x2 ag i)
      refine .calls _ _ (by simpa using hsz) ?_ ?_ (fun k hk hl d hd' => ?_) (by rw [put_size]; exact hs) (by rw [put_defers]; exact hd) ((q2 2 (by omega)).trans h2) ((q2 3 (by omega)).trans h3) (fun k hk hl => ?_)
      · rw [getD_set _ _ _ (by omega), if_neg (by omega)]; exact h10
      · rw [getD_set _ _ _ (by omega), if_neg (by omega)]; exact h11
      · rw [getD_set _ _ _ (by omega)] at hl ⊢
        by_cases hik : i = k
        · subst hik
          by_cases hid : i = d
          · rw [if_pos hid]
          · rw [if_neg hid]
            exact hdep d hd'
        · rw [if_neg hik] at hl
          by_cases hid : i = d
          · rw [if_pos hid]
          · rw [if_neg hid]
            exact hcl k hk hl d hd'
      · by_cases hik : i = k
        · subst hik
          exact q1
        · rw [getD_set _ _ _ (by omega), if_neg hik] at hl
          rw [q2 (10 + k) (by omega)]
          exact hval k hk hl
    have e : i = 0 ∨ i = 1 ∨ i = 2 ∨ i = 3 ∨ i = 4 ∨ i = 5 ∨ i = 6 ∨ i = 7 ∨ i = 8 ∨ i = 9 ∨ i = 10 := by omega
    have hl1 : Lies W0 b (o + 1) (cs ++ rest) := by
      have := hlies.drop 1
      simpa using this
    rcases e with h | h | h | h | h | h | h | h | h | h | h
    · exact stepv 0 h (by omega) z0 (fun c hc => by cases hc) (run_load1 (T := T) (r := []) tyOk T211.1 T211.2 (by rw [hyv] at *; exact hbox) z0.1 h2)
    · exact stepv 1 h (by omega) z1 (fun c hc => by cases hc) (by rw [run_move z1.1]; exact congrArg (fun v => Result.ok (Next.value v) W0) h3)
    · exact stepv 2 h (by omega) z2 (fun c hc => by cases hc) (run_nilCheck z2.1 (hpt 1 (by omega) (hdep 1 (by rw [h]; simp [depz])) _ rfl))
    · exact stepv 3 h (by omega) z3 (fun c hc => by cases hc) (run_fieldAddr tyOk T217.1 T217.2 z3.1 (hpt 2 (by omega) (hdep 2 (by rw [h]; simp [depz])) _ rfl))
    · exact stepv 4 h (by omega) z4 (fun c hc => by cases hc) (run_fieldAddr tyOk T155.1 T155.2.1 z4.1 (hpt 3 (by omega) (hdep 3 (by rw [h]; simp [depz])) _ rfl))
    · refine stepv 5 h (by omega) z5 (fun c hc => by cases hc) (run_load1 (T := T) (r := (cs.drop 2) ++ rest) tyOk T3.1 T3.2 ?_ z5.1 (hpt 4 (by omega) (hdep 4 (by rw [h]; simp [depz])) _ rfl))
      have h1 := hl1.drop 1
      rw [List.drop_append_of_le_length (by omega), List.drop_eq_getElem_cons (by omega)] at h1
      rw [List.getElem?_eq_getElem (by omega)] at hx2
      injection hx2 with hx2
      rw [hx2] at h1
      exact h1
    · exact stepv 6 h (by omega) z6 (fun c hc => by cases hc) (by rw [run_move z6.1]; exact congrArg (fun v => Result.ok (Next.value v) W0) h3)
    · exact stepv 7 h (by omega) z7 (fun c hc => by cases hc) (run_nilCheck z7.1 (hpt 6 (by omega) (hdep 6 (by rw [h]; simp [depz])) _ rfl))
    · exact stepv 8 h (by omega) z8 (fun c hc => by cases hc) (run_fieldAddr tyOk T217.1 T217.2 z8.1 (hpt 7 (by omega) (hdep 7 (by rw [h]; simp [depz])) _ rfl))
    · refine stepv 9 h (by omega) z9 (fun c hc => by cases hc) ?_
      have h1 := run_loadA (T := T) (P := Tryz.prog) (o := oz 9) (a := a) tyOk T155.2.2.1 T155.2.2.2.1 hl1 (by rw [T155.2.2.2.2, List.length_append]; omega) z9.1 (hpt 8 (by omega) (hdep 8 (by rw [h]; simp [depz])) _ rfl)
      rw [h1, T155.2.2.2.2, List.take_append_of_le_length (by omega), List.take_of_length_le (by omega), ← hag]
      rfl
    · subst h
      have hv0 := hpt 0 (by omega) (hdep 0 (by simp [depz])) _ rfl
      have hv5 := hpt 5 (by omega) (hdep 5 (by simp [depz])) _ rfl
      have hv9 := hpt 9 (by omega) (hdep 9 (by simp [depz])) _ rfl
      have hargs : (#[Operand.tmp 15, .tmp 19].map a.eval) = #[x2, ag] := by
        have e1 : a.eval (.tmp 15) = x2 := hv5
        have e2 : a.eval (.tmp 19) = ag := hv9
        simp [e1, e2]
      refine wpOp_yield (fun f => trivial) rfl (oz_at 10 (by omega)) z10.2.2 z10.1 rfl (by rw [← hyv]; exact hv0) (by rw [hargs]; exact hy) (fun e w' he => ?_)
      have all : ∀ j, j < 10 → listed.getD j false = true := by
        have k0 := hdep 0 (by simp [depz])
        have k5 := hdep 5 (by simp [depz])
        have k9 := hdep 9 (by simp [depz])
        have k4 := hcl 5 (by omega) k5 4 (by simp [depz])
        have k3 := hcl 4 (by omega) k4 3 (by simp [depz])
        have k2 := hcl 3 (by omega) k3 2 (by simp [depz])
        have k1 := hcl 2 (by omega) k2 1 (by simp [depz])
        have k8 := hcl 9 (by omega) k9 8 (by simp [depz])
        have k7 := hcl 8 (by omega) k8 7 (by simp [depz])
        have k6 := hcl 7 (by omega) k7 6 (by simp [depz])
        intro j hj
        have e : j = 0 ∨ j = 1 ∨ j = 2 ∨ j = 3 ∨ j = 4 ∨ j = 5 ∨ j = 6 ∨ j = 7 ∨ j = 8 ∨ j = 9 := by omega
        rcases e with rfl | rfl | rfl | rfl | rfl | rfl | rfl | rfl | rfl | rfl <;> assumption
      have fin : ∀ t, PB t w' → InvA yv b2 b o x2 ag W0 PB (listed.setIfInBounds 10 true) (a.put (oz 10).dst (.bool t)) w' := by
        intro t hpb
        obtain ⟨q1, _⟩ := pinPut (a := a) z10.2.1 (by rw [hs]; decide) (.bool t)
        refine .after _ _ _ t (by simpa using hsz) (fun j hj => ?_) ?_ (by rw [put_size]; exact hs) (by rw [put_defers]; exact hd) q1 hpb
        · rw [getD_set _ _ _ (by omega)]
          by_cases h : 10 = j
          · rw [if_pos h]
          · rw [if_neg h]
            exact all j (by omega)
        · rw [getD_set _ _ _ (by omega), if_neg (by omega)]
          exact h11
      rcases he with ⟨rfl, hpb⟩ | ⟨rfl, hpb⟩
      · exact ⟨_, rfl, fin true hpb⟩
      · exact ⟨_, rfl, fin false hpb⟩
end
end Go.Proofs.YtpngkkalomiggaaGreatDoor

namespace Go.Proofs.YtpngkkalomiggaaGreatDoor
open Go Go.AH Go.RowKit
section
variable {O0 : Nat → Prop} {B : Nat} {R : Nat → Prop} {a : Act} {w w' : World}
/-- Nothing that was there has changed. -/
structure Calm (O0 : Nat → Prop) (R : Nat → Prop) (w w' : World) : Prop where
  os : w'.os = w.os
  tape : w'.tape = w.tape
  output : w'.output = w.output
  size : w.heap.size ≤ w'.heap.size
  same : ∀ b, b < w.heap.size → w'.heap[b]? = w.heap[b]?
theorem Calm.q (c : Calm O0 R w w') : Quiet B w w' := ⟨c.os, c.tape, c.output, c.size, fun b hb => .inl (c.same b hb)⟩
theorem Calm.els (c : Calm O0 R w w') (hh : Here O0 R w) : Elsewhere (ZZ O0 R) w (ZZ O0 R) w' := ⟨c.size, fun b hb _ => c.same b hb, fun b h => .inl h, fun b h => Nat.lt_of_lt_of_le (hh.lt b h) c.size⟩
theorem Calm.trans {w'' : World} (c : Calm O0 R w w') (d : Calm O0 R w' w'') : Calm O0 R w w'' := ⟨d.os.trans c.os, d.tape.trans c.tape, d.output.trans c.output, Nat.le_trans c.size d.size, fun b hb => (d.same b (Nat.lt_of_lt_of_le hb c.size)).trans (c.same b hb)⟩
theorem calm_alloc (w : World) (o : Obj) : Calm O0 R w (w.alloc o) := by
  refine ⟨rfl, rfl, rfl, by simp [World.size_alloc], fun b hb => ?_⟩
  show (w.heap.push o)[b]? = _
  rw [Array.getElem?_push_lt hb, Array.getElem?_eq_getElem hb]
theorem holds_call {f : FuncId} {M : Model} (h : Holds T gl Tryz.prog f M) {args : List V} {v : V} (e : (M args []).eval = some (.ret v [])) (hh : Here O0 R w) {cargs : Array Value} (ha : RepL T w (ZZ O0 R) args noR cargs.toList) (hv : v.noRef = true)
    (hent : ∀ args w, (callFunc f args).run Tryz.prog w = .ok (.enter f args) w) : Calls Tryz.prog f cargs w fun en w' => ∃ x, en = .returned x ∧ Rep T w' (ZZ O0 R) v noR x ∧ Calm O0 R w w' := by
  have hdead : ∀ i, hOf [] i = Ob.dead := fun i => by cases i <;> rfl
  have nm : ∀ (β : Nat → AH.Loc) i, ¬ Mine (hOf []) β i := fun β i mi => by have := mi.1; rw [hdead i] at this; cases this
  have hk : Kept w w (ZZ O0 R) (AH.Own (ZZ O0 R) (hOf []) (fun _ => l0)) := Kept.less (fun b hb => by
    rcases hb with hb | ⟨i, mi, _⟩
    · exact hb
    · exact absurd mi (nm _ i))
  have cx : Cx T gl (ZZ O0 R) (hOf []) (fun _ => l0) w := ⟨(fun i => by rw [hdead i]; trivial), (fun i ha => by rw [hdead i] at ha; cases ha), fun i j _ mi => absurd mi (nm _ i), hh.lt, fun i mi => absurd mi (nm _ i), fun g => Rep.kept hk _ _ _ _ (fun _ _ h => h.elim) (hh.gl g)⟩
  have h1 := h args [] _ e (by simp) (ZZ O0 R) (fun _ => l0) w cargs cx (RepL.kept hk _ _ _ _ (fun _ _ h => h.elim) ha)
  have fin : ∀ en w', AH.Ends T gl (ZZ O0 R) [] (fun _ => l0) w (.ret v []) en w' → ∃ x, en = .returned x ∧ Rep T w' (ZZ O0 R) v noR x ∧ Calm O0 R w w' := by
    intro en w' he
    cases en with
    | returned x =>
      obtain ⟨v', objs', β', e1, g⟩ := he
      injection e1 with e1 e2
      subst e1
      subst e2
      refine ⟨x, rfl, Rep.kept (Kept.less (fun b hb => .inl hb)) _ _ _ _ (fun _ _ h => h) (noRef_noR g.rep hv), g.wk.os, g.wk.tape, g.wk.output, g.wk.size, fun b hb => g.wk.frame b hb (fun i mi => absurd mi (nm _ i))⟩
    | panicked c =>
      obtain ⟨_, _, _, _, e1, _⟩ := he
      cases e1
    | outgrown => exact he.elim
  rcases h1 with ⟨_, h2⟩ | ⟨x, w', h2, _⟩
  · exact Calls.mono h2 fin
  · rw [hent] at h2
    cases h2
end
end Go.Proofs.YtpngkkalomiggaaGreatDoor

namespace Go.Proofs.YtpngkkalomiggaaGreatDoor
open Go Go.AH Go.RowKit
section
variable {P : Program} {w w' : World} {a : Act} {ops : Array Oper}
theorem value_in {k : Nat} {Q : Exit → Act → World → Prop} {j : Nat} {l : List Nat} {o : Oper} {x : Value} (hj : ops[j]? = some o) (hg : o.guard = none) (hrun : (execOp a.eval o).run P w = .ok (.value x) w')
    (h : wpOpsIn Fence.wide k P ops Q l (a.put o.dst x) w') : wpOpsIn Fence.wide k P ops Q (j :: l) a w := by
  unfold wpOpsIn
  rw [hj]
  simp only
  have hw := wanted_none (ops := ops) (a := a) hg
  unfold Wanted at hw
  rw [if_pos hw]
  refine ⟨fun f _ => trivial, ?_⟩
  have hrun2 : (o.semAt Fence.wide.round a.eval).run P w = .ok (.value x) w' := hrun
  rw [hrun2]
  exact h
end
def itemA (p : V) : V := match p with | .pref cs => .tup [cs.getD 2 .top, .agg ((cs.drop 1).take 8)] | _ => .top
noncomputable def ow (r j : Nat) : Oper := ((ra r)[j]?).getD default
theorem w00 : (ra 0)[0]? = some (ow 0 0) ∧ (ow 0 0).op = .box 211 (.tmp 0) ∧ (ow 0 0).dst = some 2 ∧ (ow 0 0).guard = none := ⟨by kernel_rfl, by kernel_rfl, by kernel_rfl, by kernel_rfl⟩
theorem w10 : (ra 1)[0]? = some (ow 1 0) ∧ (ow 1 0).op = .load 106 (.tmp 1) ∧ (ow 1 0).dst = some 4 ∧ (ow 1 0).guard = none := ⟨by kernel_rfl, by kernel_rfl, by kernel_rfl, by kernel_rfl⟩
theorem w11 : (ra 1)[1]? = some (ow 1 1) ∧ (ow 1 1).op = .call ⟨.value (.func 128), #[.tmp 4], #[106]⟩ ∧ (ow 1 1).dst = some 5 ∧ (ow 1 1).guard = none := ⟨by kernel_rfl, by kernel_rfl, by kernel_rfl, by kernel_rfl⟩
theorem w12 : (ra 1)[2]? = some (ow 1 2) ∧ (ow 1 2).op = .unOp .not 4 (.tmp 5) ∧ (ow 1 2).dst = some 6 ∧ (ow 1 2).guard = none := ⟨by kernel_rfl, by kernel_rfl, by kernel_rfl, by kernel_rfl⟩
theorem w20 : (ra 2)[0]? = some (ow 2 0) ∧ (ow 2 0).op = .load 106 (.tmp 1) ∧ (ow 2 0).dst = some 7 ∧ (ow 2 0).guard = none := ⟨by kernel_rfl, by kernel_rfl, by kernel_rfl, by kernel_rfl⟩
theorem w21 : (ra 2)[1]? = some (ow 2 1) ∧ (ow 2 1).op = .call ⟨.value (.func 129), #[.tmp 7], #[106]⟩ ∧ (ow 2 1).dst = some 8 ∧ (ow 2 1).guard = none := ⟨by kernel_rfl, by kernel_rfl, by kernel_rfl, by kernel_rfl⟩
theorem w30 : (ra 3)[0]? = some (ow 3 0) ∧ (ow 3 0).op = .assign (.tmp 9) ∧ (ow 3 0).dst = some 3 ∧ (ow 3 0).guard = none := ⟨by kernel_rfl, by kernel_rfl, by kernel_rfl, by kernel_rfl⟩
theorem rA0 : List.range (ra 0).size = [0] := by kernel_rfl
theorem rA1 : List.range (ra 1).size = [0, 1, 2] := by kernel_rfl
theorem rA2 : List.range (ra 2).size = [0, 1] := by kernel_rfl
theorem rA3 : List.range (ra 3).size = [0] := by kernel_rfl
theorem T106 : (T 106).ok = true ∧ (T 106).agg = true ∧ (T 106).size = 5 := ⟨by kernel_rfl, by kernel_rfl, by kernel_rfl⟩
theorem name128 : (Tryz.f128.name == "runtime.NumGoroutine") = false := by kernel_rfl
theorem name129 : (Tryz.f129.name == "runtime.NumGoroutine") = false := by kernel_rfl
theorem ent128 : ∀ args w, (callFunc 128 args).run Tryz.prog w = .ok (.enter 128 args) w := enters (c := Tryz.f128.body.getD .skip) Tryz.func128 name128 (by kernel_rfl)
theorem ent129 : ∀ args w, (callFunc 129 args).run Tryz.prog w = .ok (.enter 129 args) w := enters (c := Tryz.f129.body.getD .skip) Tryz.func129 name129 (by kernel_rfl)
theorem name162 : (Tryz.f162.name == "runtime.NumGoroutine") = false := by kernel_rfl
theorem ent162 : ∀ args w, (callFunc 162 args).run Tryz.prog w = .ok (.enter 162 args) w := enters Tryz.func162 name162 bodyP
theorem begin_actA (yv x : Value) : ∃ a0 : Act, a0 = { tmps := #[yv, x] ++ Array.replicate (22 - (#[yv, x] : Array Value).size) undef, defers := [] } ∧ a0.tmps.size = 22 ∧ a0.defers = [] ∧ a0.tmps.getD 0 undef = yv ∧ a0.tmps.getD 1 undef = x := by
  refine ⟨_, rfl, by simp, rfl, ?_, ?_⟩ <;> simp [Array.getD_eq_getD_getElem?]
/-- Behind what stands ahead of the loop: the yield in its box, the iterator in its slot. -/
structure Set (l : Nat) (O : Nat → Prop) (Rz : Nat → Prop) (cs5 : List V) (W : World) (b2 : Nat) (q : Array Value) (a : Act) (w : World) : Prop where
  size : a.tmps.size = 22
  defers : a.defers = []
  t2 : a.tmps.getD 2 undef = .pointer (some ⟨b2, 0, none⟩)
  t8 : a.tmps.getD 8 undef = .func (.func 162) #[] q
  q : RepL T w (ZZ O Rz) [.pref cs5] noR q.toList
  box : w.heap[b2]? = some (.cells #[.func (.yield l) #[] #[]] 211)
  b2 : W.heap.size ≤ b2 ∧ b2 < w.heap.size
  calm : Calm O Rz W w
theorem set_in {M128 M129 : Model} (h128 : Holds T gl Tryz.prog 128 M128) (h129 : Holds T gl Tryz.prog 129 M129) {cs5 : List V} (h5 : cs5.length = 5) (hn5 : V.refsL cs5 = []) (e128 : (M128 [.agg cs5] []).eval = some (.ret (.bool true) [])) (e129 : (M129 [.agg cs5] []).eval = some (.ret (.clo 162 [] [.pref cs5]) []))
    {l : Nat} {O Rz : Nat → Prop} {W : World} {x : Value} (here : Here O Rz W) (hx : Rep T W (ZZ O Rz) (.pref cs5) noR x) {kn : Nat} {Q : Exit → Act → World → Prop} {a0 : Act} (hsz0 : a0.tmps.size = 22) (hdf0 : a0.defers = []) (t00 : a0.tmps.getD 0 undef = .func (.yield l) #[] #[]) (t01 : a0.tmps.getD 1 undef = x) {c : Code}
    (hK : ∀ a w b2 q, Set l O Rz cs5 W b2 q a w → c.wpIn Fence.wide kn Tryz.prog Q a w) :
    (Code.seq (.region 0 (ra 0) false) (.seq (.seq (.region 1 (ra 1) false) (.cond (.tmp 6) .ret .skip)) (.seq (.region 2 (ra 2) false) c))).wpIn Fence.wide kn Tryz.prog Q a0 W := by
  obtain ⟨b, o, l5, rfl, hb, hbz, hl5, hr5⟩ := hx
  have hlen5 : l5.length = 5 := by rw [hr5.length, h5]
  refine wpIn_seq (wpIn_region ?_)
  rw [rA0]
  obtain ⟨W1, hW1⟩ : ∃ W1, W1 = W.alloc (.cells #[.func (.yield l) #[] #[]] 211) := ⟨_, rfl⟩
  have hrun0 : (execOp a0.eval (ow 0 0)).run Tryz.prog W = .ok (.value (.pointer (some ⟨W.heap.size, 0, none⟩))) W1 := by
    have e0 : a0.eval (.tmp 0) = .func (.yield l) #[] #[] := t00
    rw [hW1]
    simp [execOp, w00.2.1, e0, Instr.box, newVar]
    rfl
  refine value_in w00.1 w00.2.2.2 hrun0 ?_
  have c1 : Calm O Rz W W1 := by rw [hW1]; exact calm_alloc W _
  have hbox1 : W1.heap[W.heap.size]? = some (.cells #[.func (.yield l) #[] #[]] 211) := by rw [hW1]; exact heap_alloc_new' W _
  have hs1 : W.heap.size < W1.heap.size := by rw [hW1]; simp [World.size_alloc]
  obtain ⟨a1, ha1⟩ : ∃ a1, a1 = a0.put (ow 0 0).dst (.pointer (some ⟨W.heap.size, 0, none⟩)) := ⟨_, rfl⟩
  obtain ⟨p1, p1'⟩ := pinPut (a := a0) w00.2.2.1 (by rw [hsz0]; decide) (.pointer (some ⟨W.heap.size, 0, none⟩))
  rw [← ha1] at p1 p1' ⊢
  have sz1 : a1.tmps.size = 22 := by rw [ha1, put_size]; exact hsz0
  have df1 : a1.defers = [] := by rw [ha1, put_defers]; exact hdf0
  clear ha1
  have here1 := here.els _ (c1.els here)
  show (Code.seq _ _).wpIn Fence.wide kn Tryz.prog Q a1 W1
  refine wpIn_seq (wpIn_seq (wpIn_region ?_))
  rw [rA1]
  have lies_at : ∀ {w : World}, Calm O Rz W w → Lies w b o l5 := fun c => hl5.kept (c.same b hb)
  have hagg : ∀ {w : World}, Calm O Rz W w → RepL T w (ZZ O Rz) [.agg cs5] noR [.agg l5.toArray] := fun c => by
    refine ⟨_, [], rfl, ⟨l5.toArray, rfl, ?_⟩, rfl⟩
    have := RepL.kept (c.els here).kept cs5 noR noR l5 (fun _ _ h => h) hr5
    simpa using this
  have load5 : ∀ {w : World} {a : Act} {oo : Oper}, Calm O Rz W w → oo.op = .load 106 (.tmp 1) → a.tmps.getD 1 undef = .pointer (some ⟨b, o, none⟩) → (execOp a.eval oo).run Tryz.prog w = .ok (.value (.agg l5.toArray)) w := by
    intro w a oo c hoo h1
    have := run_loadA (T := T) (P := Tryz.prog) (o := oo) (a := a) tyOk T106.1 T106.2.1 (lies_at c) (by rw [T106.2.2]; omega) hoo h1
    rw [this, T106.2.2, List.take_of_length_le (by omega)]
  refine value_in w10.1 w10.2.2.2 (load5 c1 w10.2.1 ((p1' 1 (by omega)).trans t01)) ?_
  obtain ⟨a2, ha2⟩ : ∃ a2, a2 = a1.put (ow 1 0).dst (.agg l5.toArray) := ⟨_, rfl⟩
  obtain ⟨p2, p2'⟩ := pinPut (a := a1) w10.2.2.1 (by rw [sz1]; decide) (.agg l5.toArray)
  rw [← ha2] at p2 p2' ⊢
  have sz2 : a2.tmps.size = 22 := by rw [ha2, put_size]; exact sz1
  have df2 : a2.defers = [] := by rw [ha2, put_defers]; exact df1
  clear ha2
  have hargs : (#[Operand.tmp 4].map a2.eval) = #[.agg l5.toArray] := by
    have e4 : a2.eval (.tmp 4) = .agg l5.toArray := p2
    simp [e4]
  have hc128 := holds_call h128 e128 here1 (cargs := #[.agg l5.toArray]) (hagg c1) rfl ent128
  rw [← hargs] at hc128
  refine enter_in w11.1 w11.2.1 rfl (wanted_none w11.2.2.2) ent128 (callsIn_wide.2 hc128) (fun e w2 he => ?_)
  obtain ⟨x2, rfl, hx2, c2⟩ := he
  have hx2 : x2 = .bool true := hx2
  subst hx2
  refine ⟨_, rfl, ?_⟩
  obtain ⟨a3, ha3⟩ : ∃ a3, a3 = a2.put (ow 1 1).dst (.bool true) := ⟨_, rfl⟩
  obtain ⟨p3, p3'⟩ := pinPut (a := a2) w11.2.2.1 (by rw [sz2]; decide) (.bool true)
  rw [← ha3] at p3 p3' ⊢
  have sz3 : a3.tmps.size = 22 := by rw [ha3, put_size]; exact sz2
  have df3 : a3.defers = [] := by rw [ha3, put_defers]; exact df2
  clear ha3
  refine value_in w12.1 w12.2.2.2 (run_not w12.2.1 p3) ?_
  obtain ⟨a4, ha4⟩ : ∃ a4, a4 = a3.put (ow 1 2).dst (.bool !true) := ⟨_, rfl⟩
  obtain ⟨p4, p4'⟩ := pinPut (a := a3) w12.2.2.1 (by rw [sz3]; decide) (.bool !true)
  rw [← ha4] at p4 p4' ⊢
  have sz4 : a4.tmps.size = 22 := by rw [ha4, put_size]; exact sz3
  have df4 : a4.defers = [] := by rw [ha4, put_defers]; exact df3
  clear ha4
  show (Code.cond (.tmp 6) .ret .skip).wpIn Fence.wide kn Tryz.prog _ a4 w2
  refine wpIn_cond (t := false) p4 (wpIn_skip ?_)
  show (Code.seq (.region 2 (ra 2) false) c).wpIn Fence.wide kn Tryz.prog _ a4 w2
  refine wpIn_seq (wpIn_region ?_)
  rw [rA2]
  have c02 := c1.trans c2
  have here2 := here.els _ (c02.els here)
  have t14 : a4.tmps.getD 1 undef = .pointer (some ⟨b, o, none⟩) := by rw [p4' 1 (by omega), p3' 1 (by omega), p2' 1 (by omega), p1' 1 (by omega)]; exact t01
  have t24 : a4.tmps.getD 2 undef = .pointer (some ⟨W.heap.size, 0, none⟩) := by rw [p4' 2 (by omega), p3' 2 (by omega), p2' 2 (by omega)]; exact p1
  refine value_in w20.1 w20.2.2.2 (load5 c02 w20.2.1 t14) ?_
  obtain ⟨a5, ha5⟩ : ∃ a5, a5 = a4.put (ow 2 0).dst (.agg l5.toArray) := ⟨_, rfl⟩
  obtain ⟨p5, p5'⟩ := pinPut (a := a4) w20.2.2.1 (by rw [sz4]; decide) (.agg l5.toArray)
  rw [← ha5] at p5 p5' ⊢
  have sz5 : a5.tmps.size = 22 := by rw [ha5, put_size]; exact sz4
  have df5 : a5.defers = [] := by rw [ha5, put_defers]; exact df4
  clear ha5
  have hargs2 : (#[Operand.tmp 7].map a5.eval) = #[.agg l5.toArray] := by
    have e7 : a5.eval (.tmp 7) = .agg l5.toArray := p5
    simp [e7]
  have hc129 := holds_call h129 e129 here2 (cargs := #[.agg l5.toArray]) (hagg c02) rfl ent129
  rw [← hargs2] at hc129
  refine enter_in w21.1 w21.2.1 rfl (wanted_none w21.2.2.2) ent129 (callsIn_wide.2 hc129) (fun e w3 he => ?_)
  obtain ⟨x3, rfl, hx3, c3⟩ := he
  obtain ⟨q1, q, rfl, hq1, hq⟩ := hx3
  have hq1 : q1 = #[] := by
    have : q1.toList = [] := hq1
    simpa using this
  subst hq1
  refine ⟨_, rfl, ?_⟩
  obtain ⟨p6, p6'⟩ := pinPut (a := a5) w21.2.2.1 (by rw [sz5]; decide) (.func (.func 162) #[] q)
  have c03 := c02.trans c3
  refine hK _ w3 W.heap.size q ⟨by rw [put_size]; exact sz5, by rw [put_defers]; exact df5, ?_, p6, hq, ?_, ⟨Nat.le_refl _, ?_⟩, c03⟩
  · rw [p6' 2 (by omega), p5' 2 (by omega)]
    exact t24
  · rw [c3.same _ (Nat.lt_of_lt_of_le hs1 c2.size), c2.same _ hs1]
    exact hbox1
  · exact Nat.lt_of_lt_of_le hs1 (Nat.le_trans c2.size c3.size)
end Go.Proofs.YtpngkkalomiggaaGreatDoor

namespace Go.Proofs.YtpngkkalomiggaaGreatDoor
open Go Go.AH Go.RowKit
theorem l9_split {l9 : List Value} (h : 9 ≤ l9.length) : ∃ c1 cs8 rest, l9 = c1 :: cs8 ++ rest ∧ cs8.length = 8 ∧ cs8 = (l9.drop 1).take 8 := by
  cases l9 with
  | nil => simp at h
  | cons c r =>
    refine ⟨c, r.take 8, r.drop 8, ?_, ?_, rfl⟩
    · rw [List.cons_append, List.take_append_drop]
    · rw [List.length_take]
      simp at h
      omega
section
variable {l l1 B : Nat} {O Rz : Nat → Prop} {cs5 : List V} {W w : World} {b2 : Nat} {q : Array Value} {a : Act} {kn : Nat} {J : Nat → (Nat → Prop) → World → Prop} {Jx : World → Prop} {items : List V} {R1 : Nat → Prop}
def PBo (J : Nat → (Nat → Prop) → World → Prop) (Jx : World → Prop) (O R1 : Nat → Prop) (k : Nat) (X : World) (t : Bool) (Y : World) : Prop := (t = true ∧ ∃ R', J (k + 1) R' Y ∧ Kp O R1 X R' Y) ∨ (t = false ∧ Jx Y ∧ ∃ R', Kp O R1 X R' Y)
/-- The body of a round. -/
theorem body_in (hy : ∀ k R X vs args, items[k]? = some (.tup vs) → J k R X → RepL T X (fun b => O b ∨ R b) vs noR args →
      YieldAt Fence.wide (kn - 1) Tryz.prog l args.toArray X fun e Y => (e = .returned (.bool true) ∧ ∃ R', J (k + 1) R' Y ∧ Kp O R X R' Y) ∨ (e = .returned (.bool false) ∧ Jx Y ∧ ∃ R', Kp O R X R' Y))
    {k : Nat} {cs : List V} (h9 : 9 ≤ cs.length) (hit : items[k]? = some (itemA (.pref cs))) {W5 : World} {a5 : Act} {b o : Nat} {l9 : List Value} (hJ : J k R1 W5) (hq : ∀ k R X Y, J k R X → Quiet B X Y → J k R Y) (hlies : Lies W5 b o l9) (hrep : RepL T W5 (fun b => O b ∨ R1 b) cs noR l9)
    (hbox : W5.heap[b2]? = some (.cells #[.func (.yield l) #[] #[]] 211)) (hsz : a5.tmps.size = 22) (hdf : a5.defers = []) (t2 : a5.tmps.getD 2 undef = .pointer (some ⟨b2, 0, none⟩)) (t3 : a5.tmps.getD 3 undef = .pointer (some ⟨b, o, none⟩)) {m : Nat} {Q : Exit → Act → World → Prop}
    (hT : ∀ a' Y, (∃ R', J (k + 1) R' Y ∧ Kp O R1 { W5 with drawn := W5.drawn + 1 } R' Y) → Q .normal a' Y) (hF : ∀ a' Y, (Jx Y ∧ ∃ R', Kp O R1 { W5 with drawn := W5.drawn + 1 } R' Y) → Q .ret a' Y) :
    bodA.wpIn (Fence.wide.inRound l1) m Tryz.prog Q a5 W5 := by
  have hlen := hrep.length
  obtain ⟨c1, cs8, rest, hl9, hcs8, hcs8'⟩ := l9_split (l9 := l9) (by omega)
  obtain ⟨W6, hW6⟩ : ∃ W6, W6 = { W5 with drawn := W5.drawn + 1 } := ⟨_, rfl⟩
  rw [← hW6] at hT hF
  have hq6 : Quiet B W5 W6 := by rw [hW6]; exact Quiet.of_heap rfl rfl rfl rfl
  have hk6 : Kept W5 W6 (fun b => O b ∨ R1 b) (fun b => O b ∨ R1 b) := by rw [hW6]; exact kept_heap rfl
  have hrep6 : RepL T W6 (fun b => O b ∨ R1 b) cs noR l9 := RepL.kept hk6 _ _ _ _ (fun _ _ h => h) hrep
  have hlies6 : Lies W6 b o l9 := by rw [hW6]; exact hlies
  obtain ⟨x2, hx2⟩ : ∃ x2, cs8[1]? = some x2 := ⟨cs8[1]'(by omega), List.getElem?_eq_getElem (by omega)⟩
  have hx2' : l9[2]? = some x2 := by
    rw [hl9, List.cons_append, List.getElem?_cons_succ, List.getElem?_append_left (by omega)]
    exact hx2
  have hv2 : cs[2]? = some (cs.getD 2 .top) := by
    rw [List.getD_eq_getElem?_getD, List.getElem?_eq_getElem (show 2 < cs.length by omega)]
    rfl
  obtain ⟨y, hy2, hr2⟩ := RepL.get 2 _ hrep6 hv2
  rw [hx2'] at hy2
  injection hy2 with hy2
  subst hy2
  have hargs : RepL T W6 (fun b => O b ∨ R1 b) [cs.getD 2 .top, .agg ((cs.drop 1).take 8)] noR [x2, .agg cs8.toArray] := by
    refine ⟨_, _, rfl, hr2, _, [], rfl, ⟨_, rfl, ?_⟩, rfl⟩
    rw [hcs8']
    simpa using (hrep6.drop 1).take 8
  have hyl := hy k R1 W6 _ _ hit (hq _ _ _ _ hJ hq6) hargs
  have hyl2 : YieldAt (Fence.wide.inRound l1) (m - 1) Tryz.prog l #[x2, .agg cs8.toArray] W6 fun e Y => (e = .returned (.bool true) ∧ PBo J Jx O R1 k W6 true Y) ∨ (e = .returned (.bool false) ∧ PBo J Jx O R1 k W6 false Y) :=
    (yield_any hyl).mono fun e Y he => he.imp (fun h => ⟨h.1, .inl ⟨rfl, h.2⟩⟩) (fun h => ⟨h.1, .inr ⟨rfl, h.2⟩⟩)
  have hb2 : Lies W6 b2 0 [.func (.yield l) #[] #[]] := by
    intro j u hj
    have h1 : W6.heap[b2]? = some (.cells #[.func (.yield l) #[] #[]] 211) := by rw [hW6]; exact hbox
    cases j with
    | zero =>
      injection hj with hj
      subst hj
      simp [World.cell?, h1]
    | succ j => cases hj
  rw [hl9] at hlies6
  unfold bodA
  refine wpIn_block (wpIn_seq (draw_any fun md => ?_))
  rw [← hW6]
  refine any_inv (InvA (.func (.yield l) #[] #[]) b2 b o x2 (.agg cs8.toArray) W6 (PBo J Jx O R1 k W6)) (fun listed a w h => by rw [szA4]; exact h.size) (fun listed a w h => invA_step (n := m) hlies6 hcs8 hx2 rfl hb2 rfl hyl2 listed a w h) (fun listed a' Y h hr => ?_) (ra 4).size (Array.replicate (ra 4).size false) a5 W6 ?_ ?_
  · obtain ⟨t, s1, s2, s3, hpb⟩ := invA_end h hr
    rcases hpb with ⟨rfl, hpb⟩ | ⟨rfl, hpb⟩
    · exact wpIn_cond (t := false) s3 (wpIn_skip (hT a' Y hpb))
    · exact wpIn_cond (t := true) s3 (wpIn_ret (hF a' Y hpb))
  · rw [szA4]
    exact .calls _ _ (by simp) (by decide) (by decide) (fun i hi hl => by rw [show ∀ j, (Array.replicate 12 false).getD j false = false from fun j => by simp [Array.getD_eq_getD_getElem?, Array.getElem?_replicate]; split <;> rfl] at hl; cases hl) hsz hdf t2 t3 (fun j hj hl => by rw [show ∀ j, (Array.replicate 12 false).getD j false = false from fun j => by simp [Array.getD_eq_getD_getElem?, Array.getElem?_replicate]; split <;> rfl] at hl; cases hl)
  · unfold openOf
    refine Nat.le_trans (List.length_filter_le _ _) ?_
    simp
end
end Go.Proofs.YtpngkkalomiggaaGreatDoor

namespace Go.Proofs.YtpngkkalomiggaaGreatDoor
open Go Go.AH Go.RowKit
set_option maxHeartbeats 1000000 in
theorem seq127 {M128 M129 : Model} (h128 : Holds T gl Tryz.prog 128 M128) (h129 : Holds T gl Tryz.prog 129 M129) {a b c e : V} {blk L cs5 : List V} (hc5 : cs5 = [a, b, c, .seq 155 blk, e]) (hn5 : V.refsL cs5 = []) (e128 : (M128 [.agg cs5] []).eval = some (.ret (.bool true) [])) (e129 : (M129 [.agg cs5] []).eval = some (.ret (.clo 162 [] [.pref cs5]) []))
    (hL : visitV 300 .nilp blk 0 blk = some L) (hok : ∀ p ∈ L, ∃ cs, p = .pref cs ∧ 9 ≤ cs.length) {kn : Nat} {O : Nat → Prop} {w0 : World} {lb : Array Value} (hO : ∀ b, O b → b < w0.heap.size) (hg : ∀ g, Rep T w0 O (gl g) noR (.pointer (some ⟨g, 0, none⟩)))
    (hlb : RepL T w0 O [.pref cs5] noR lb.toList) : SeqAt T kn Tryz.prog 127 lb (L.map itemA) O w0 := by
  intro l J Jx W hW hq hqx hy hJ0
  obtain ⟨x, r, hx, hrx, hr⟩ := hlb
  have hr' : r = [] := hr
  subst hr'
  have hlbx : lb = #[x] := Array.toList_inj.1 (by simpa using hx)
  subst hlbx
  obtain ⟨Rz, hRz⟩ : ∃ Rz : Nat → Prop, Rz = fun b => w0.heap.size ≤ b ∧ b < W.heap.size := ⟨_, rfl⟩
  rw [← hRz] at hJ0
  have hk : Kept w0 W O (ZZ O Rz) := ⟨hW.size, fun b hb _ => by
    rcases hW.same b hb with h | ⟨h, _⟩
    · exact h
    · omega, fun b hb hn hz => by
    rcases hz with hz | hz
    · exact hn hz
    · rw [hRz] at hz
      have := hz.1
      omega⟩
  have here : Here O Rz W := ⟨fun b hz => by
    rcases hz with hz | hz
    · exact Nat.lt_of_lt_of_le (hO b hz) hW.size
    · rw [hRz] at hz
      exact hz.2, fun g => Rep.kept hk _ _ _ _ (fun _ _ h => h) (hg g)⟩
  have hxW : Rep T W (ZZ O Rz) (.pref cs5) noR x := Rep.kept hk _ _ _ _ (fun _ _ h => h) hrx
  show CallsIn Fence.wide kn Tryz.prog 127 #[.func (.yield l) #[] #[], x] W _
  refine callsIn_of_wp_marks Tryz.func127 bodyA trivial ?_
  rw [ntA]
  obtain ⟨a0, ha0, hsz0, hdf0, t00, t01⟩ := begin_actA (.func (.yield l) #[] #[]) x
  rw [← ha0]
  clear ha0
  refine set_in h128 h129 (by rw [hc5]; rfl) hn5 e128 e129 here hxW hsz0 hdf0 t00 t01 (fun a1 w b2 q hs => ?_)
  have herew := here.els _ (hs.calm.els here)
  have hb2z : ¬ ZZ O Rz b2 := fun hz => by
    have := here.lt _ hz
    have := hs.b2.1
    omega
  refine wpIn_block (wpIn_rangeFunc (fun fn hfn => ?_))
  obtain ⟨rec, hrec⟩ : ∃ rec : LoopState → Option Code → Loop, rec = fun st pe => { state := st, pending := pe, fn, tmps := a1.tmps, params := #[9], assign := asgA, body := bodA, defers := w.heap.size } := ⟨_, rfl⟩
  obtain ⟨W4, hW4⟩ : ∃ W4, (w.alloc (.deferred (some []))).alloc (.loop (rec .ready none)) = W4 := ⟨_, rfl⟩
  have hs4 : W4.heap.size = w.heap.size + 2 := by rw [← hW4]; simp [World.size_alloc]
  have hL4 : W4.heap[w.heap.size + 1]? = some (.loop (rec .ready none)) := by
    rw [← hW4]
    have := World.alloc_heap_new (w.alloc (.deferred (some []))) (.loop (rec .ready none))
    rwa [World.size_alloc] at this
  have hQ4 : ∀ B', Quiet B' w W4 := fun B' => by rw [← hW4]; exact (Quiet.alloc w _).trans (Quiet.alloc _ _)
  have hD4 : W4.heap[w.heap.size]? = some (.deferred (some [])) := by
    rw [← hW4]
    show (((w.heap.push (.deferred (some []))).push _)[w.heap.size]?) = _
    rw [Array.getElem?_push_lt (by simp)]
    simp
  obtain ⟨l1, hl1⟩ : ∃ l1, l1 = w.heap.size + 1 := ⟨_, rfl⟩
  obtain ⟨D, hD⟩ : ∃ D, D = w.heap.size := ⟨_, rfl⟩
  rw [← hl1] at hL4
  rw [← hD] at hD4
  have hWw : W.heap.size ≤ w.heap.size := hs.calm.size
  refine ⟨l1, [{ target := .collected D, args := #[] }], W4, { target := .fn (.func 162) q, args := #[.func (.yield l1) #[] #[]] }, W4, 162, #[.func (.yield l1) #[] #[]] ++ q, W4, ?_, ?_, ?_, ?_, (fun h => absurd h (by simp [Fence.wide])), ?_⟩
  · rw [← hW4, hrec, hl1, hD]
    exact run_enterLoop_outer _ _ _ _ _
  · have e8 : a1.eval (.tmp 8) = .func (.func 162) #[] q := hs.t8
    simp only [resolve, e8]
    simp [go_sem]
  · intro f' _
    trivial
  · simp [invoke, go_sem, ent162]
  have hseq := seq162 (a := a) (b := b) (c := c) (e := e) hL (kn := kn - 1) (O := ZZ O Rz) (w := w) (lb := q) herew.lt herew.gl (hc5 ▸ hs.q)
  refine (hseq l1
    (fun k Rin X => ∃ R1, J k R1 X ∧ Elsewhere (ZZ O Rz) w (ZZ O R1) X ∧ X.heap[l1]? = some (.loop (rec .ready none)) ∧ X.heap[D]? = some (.deferred (some [])) ∧ ¬ ZZ O R1 l1 ∧ ¬ ZZ O R1 D ∧ (∀ b', R1 b' → Rz b' ∨ Rin b') ∧ Rin l1)
    (fun X => Jx X ∧ X.heap[l1]? = some (.loop (rec .done (some .ret))) ∧ X.heap[D]? = some (.deferred (some [])))
    W4 (hQ4 _) ?_ ?_ ?_ ?_).mono ?_
  · rintro k Rin X Y ⟨R1, h1, h2, h3, h4, h5, h6, h7, h8⟩ hqu
    have hsame : ∀ b', b' < W4.heap.size → b' < X.heap.size → Y.heap[b']? = X.heap[b']? := fun b' h h' => by
      rcases hqu.same b' h' with q1 | ⟨q1, _⟩
      · exact q1
      · omega
    have hlX : l1 < X.heap.size := (Array.getElem?_eq_some_iff.1 h3).1
    have hDX : D < X.heap.size := (Array.getElem?_eq_some_iff.1 h4).1
    refine ⟨R1, hq _ _ _ _ h1 (hqu.mono (by omega)), ⟨Nat.le_trans h2.size hqu.size, fun b' hb' hz => (hsame b' (by omega) (Nat.lt_of_lt_of_le hb' h2.size)).trans (h2.same b' hb' hz), h2.new, fun b' hz => Nat.lt_of_lt_of_le (h2.lt b' hz) hqu.size⟩, ?_, ?_, h5, h6, h7, h8⟩
    · rw [hsame l1 (by omega) hlX]; exact h3
    · rw [hsame D (by omega) hDX]; exact h4
  · rintro X Y ⟨h1, h3, h4⟩ hqu
    have hsame : ∀ b', b' < W4.heap.size → b' < X.heap.size → Y.heap[b']? = X.heap[b']? := fun b' h h' => by
      rcases hqu.same b' h' with q1 | ⟨q1, _⟩
      · exact q1
      · omega
    have hlX : l1 < X.heap.size := (Array.getElem?_eq_some_iff.1 h3).1
    have hDX : D < X.heap.size := (Array.getElem?_eq_some_iff.1 h4).1
    refine ⟨hqx _ _ h1 (hqu.mono (by omega)), ?_, ?_⟩
    · rw [hsame l1 (by omega) hlX]; exact h3
    · rw [hsame D (by omega) hDX]; exact h4
  · rintro k Rin X xs args hit ⟨R1, hJ, hE, hlX, hDX, hl1z, hDz, hsub, hRl⟩ hargs
    rw [List.getElem?_map] at hit
    cases hLk : L[k]? with
    | none => rw [hLk] at hit; cases hit
    | some p =>
    rw [hLk] at hit
    simp only [Option.map_some, Option.some.injEq, V.tup.injEq] at hit
    subst hit
    obtain ⟨cs, rfl, h9⟩ := hok p (List.mem_of_getElem? hLk)
    obtain ⟨x9, r9, rfl, hx9, hr9⟩ := hargs
    have hr9' : r9 = [] := hr9
    subst hr9'
    obtain ⟨bb, oo, l9, rfl, hbb, hbz, hlies, hrep⟩ := hx9
    have hlt : l1 < X.heap.size := (Array.getElem?_eq_some_iff.1 hlX).1
    have hltD : D < X.heap.size := (Array.getElem?_eq_some_iff.1 hDX).1
    have hyl := run_yield (P := Tryz.prog) (args := [Value.pointer (some ⟨bb, oo, none⟩)].toArray) hlX (by rw [hrec]; rfl)
    refine ⟨_, _, _, _, hyl, ?_⟩
    have hfn : (rec .ready none).assign = asgA ∧ (rec .ready none).body = bodA := by rw [hrec]; exact ⟨rfl, rfl⟩
    have htm : (((rec .ready none).params.zip [Value.pointer (some ⟨bb, oo, none⟩)].toArray).foldl (fun tmps (p : Tmp × Value) => tmps.setIfInBounds p.1 p.2) (rec .ready none).tmps) = a1.tmps.setIfInBounds 9 (.pointer (some ⟨bb, oo, none⟩)) := by
      rw [hrec]
      rw [← Array.foldl_toList, Array.toList_zip]
      rfl
    rw [htm, hfn.1, hfn.2]
    refine roundIn_of_wpIn trivial ?_
    show (Code.region 3 (ra 3) false).wpIn _ _ _ _ _ _
    refine wpIn_region ?_
    rw [rA3, wpOpsIn_cons]
    obtain ⟨a2, ha2⟩ : ∃ a2 : Act, a2 = { tmps := a1.tmps.setIfInBounds 9 (.pointer (some ⟨bb, oo, none⟩)), defers := [] } := ⟨_, rfl⟩
    rw [← ha2]
    have e9 : a2.eval (.tmp 9) = .pointer (some ⟨bb, oo, none⟩) := by
      show a2.tmps.getD 9 undef = _
      rw [ha2]
      simp only [Array.getD_eq_getD_getElem?]
      rw [Array.getElem?_setIfInBounds_self_of_lt (by rw [hs.size]; decide)]
      rfl
    have sz2 : a2.tmps.size = 22 := by rw [ha2]; simpa using hs.size
    have t22 : a2.tmps.getD 2 undef = .pointer (some ⟨b2, 0, none⟩) := by
      rw [ha2]
      simp only [Array.getD_eq_getD_getElem?]
      rw [Array.getElem?_setIfInBounds_ne (by decide)]
      have := hs.t2
      simpa [Array.getD_eq_getD_getElem?] using this
    have df2 : a2.defers = [] := by rw [ha2]
    clear ha2
    refine wpOp_value (x := .pointer (some ⟨bb, oo, none⟩)) (fun f => trivial) w30.1 w30.2.2.2 (fun c hc => by rw [w30.2.1] at hc; cases hc) (by rw [← e9]; simp [execOp, w30.2.1]) ?_
    obtain ⟨p3, p3'⟩ := pinPut (a := a2) w30.2.2.1 (by rw [sz2]; decide) (.pointer (some ⟨bb, oo, none⟩))
    refine ⟨_, run_beginRound hlX (by rw [hrec]), ?_⟩
    obtain ⟨W5, hW5⟩ : ∃ W5, W5 = X.putObj l1 (.loop { rec .ready none with state := .busy }) := ⟨_, rfl⟩
    rw [← hW5]
    have hq5 : ∀ B', B' ≤ l1 → Quiet B' X W5 := fun B' hB' => by rw [hW5]; exact Quiet.putObj hlX hB' _
    have hsz5 : W5.heap.size = X.heap.size := by rw [hW5]; simp
    have hb5 : ∀ b', b' ≠ l1 → W5.heap[b']? = X.heap[b']? := fun b' h => by rw [hW5]; exact World.putObj_heap_other h
    have hl5 : W5.heap[l1]? = some (.loop { rec .ready none with state := .busy }) := by rw [hW5]; exact World.putObj_heap_same hlt
    have hbl : bb ≠ l1 := fun e => hbz (e ▸ .inr hRl)
    have hb2l : b2 ≠ l1 := by have := hs.b2.2; omega
    have hbox5 : W5.heap[b2]? = some (.cells #[.func (.yield l) #[] #[]] 211) := by rw [hb5 b2 hb2l, hE.same b2 hs.b2.2 hb2z]; exact hs.box
    have hlies5 : Lies W5 bb oo l9 := hlies.kept (hb5 bb hbl)
    have hrep5 : RepL T W5 (fun b' => O b' ∨ R1 b') cs noR l9 := by
      have h1 : RepL T W5 (fun b' => ZZ O Rz b' ∨ Rin b') cs noR l9 := RepL.quiet (hq5 l1 (Nat.le_refl _)) _ _ _ hrep
      exact RepL.kept (Kept.less (fun b' hb' => by
        rcases hb' with h | h
        · exact .inl (.inl h)
        · rcases hsub b' h with h | h
          · exact .inl (.inr h)
          · exact .inr h)) _ _ _ _ (fun _ _ h => h) h1
    refine body_in (J := J) (Jx := Jx) (items := L.map itemA) (B := W.heap.size) (b2 := b2) (kn := kn) (k := k) (l := l) (l1 := l1) hy h9 (by rw [List.getElem?_map, hLk]; rfl) (hq _ _ _ _ hJ (hq5 _ (by omega))) hq hlies5 hrep5 hbox5 (by rw [put_size]; exact sz2) (by rw [put_defers]; exact df2) ((p3' 2 (by omega)).trans t22) p3 (fun a' Y hY => ?_) (fun a' Y hY => ?_)
    · obtain ⟨R', hJ', hkp⟩ := hY
      have hsame : ∀ b', b' < X.heap.size → ¬ O b' → ¬ R1 b' → Y.heap[b']? = W5.heap[b']? := fun b' h1 h2 h3 => hkp.same b' (by show b' < W5.heap.size; omega) h2 h3
      have hYl : Y.heap[l1]? = some (.loop { rec .ready none with state := .busy }) := (hsame l1 hlt (fun h => hl1z (.inl h)) (fun h => hl1z (.inr h))).trans hl5
      have hszY : X.heap.size ≤ Y.heap.size := by have : W5.heap.size ≤ Y.heap.size := hkp.size; omega
      have hYD : Y.heap[D]? = some (.deferred (some [])) := by rw [hsame D hltD (fun h => hDz (.inl h)) (fun h => hDz (.inr h)), hb5 D (by omega)]; exact hDX
      have hrr : ({ rec .ready none with state := .ready, pending := none } : Loop) = rec .ready none := by rw [hrec]
      have hend := run_endRound (P := Tryz.prog) none hYl
      have hput : ({ ({ rec .ready none with state := .busy } : Loop) with state := if (none : Option Code).isNone then LoopState.ready else .done, pending := none } : Loop) = rec .ready none := by rw [hrec]; rfl
      rw [hput] at hend
      refine ⟨_, _, hend, .inl ⟨rfl, fun b' => Rin b' ∨ (R' b' ∧ X.heap.size ≤ b'), ⟨R', hq _ _ _ _ hJ' (Quiet.putObj hYl (by omega) _), ?_, ?_, ?_, ?_, ?_, ?_, .inl hRl⟩, ?_⟩⟩
      · refine els_trans hE ⟨by simpa using hszY, fun b' hb' hz => ?_, fun b' hz => ?_, fun b' hz => ?_⟩
        · by_cases h : b' = l1
          · subst h
            rw [World.putObj_heap_same (by omega), hlX]
          · rw [World.putObj_heap_other h, hsame b' hb' (fun h => hz (.inl h)) (fun h => hz (.inr h)), hb5 b' h]
        · rcases hz with hz | hz
          · exact .inl (.inl hz)
          · rcases hkp.new b' hz with h | h
            · exact .inl (.inr h)
            · exact .inr (by have h : W5.heap.size ≤ b' := h; omega)
        · rw [show (Y.putObj l1 (.loop (rec .ready none))).heap.size = Y.heap.size from by simp]
          rcases hz with hz | hz
          · exact Nat.lt_of_lt_of_le (hE.lt b' (.inl hz)) hszY
          · rcases hkp.lt b' hz with h | h
            · exact Nat.lt_of_lt_of_le (hE.lt b' (.inr h)) hszY
            · exact h
      · exact World.putObj_heap_same (by omega)
      · rw [World.putObj_heap_other (by omega)]; exact hYD
      · rintro (h | h)
        · exact hl1z (.inl h)
        · rcases hkp.new l1 h with h | h
          · exact hl1z (.inr h)
          · have h : W5.heap.size ≤ l1 := h
            omega
      · rintro (h | h)
        · exact hDz (.inl h)
        · rcases hkp.new D h with h | h
          · exact hDz (.inr h)
          · have h : W5.heap.size ≤ D := h
            omega
      · intro b' h
        rcases hkp.new b' h with h1 | h1
        · exact (hsub b' h1).imp id .inl
        · exact .inr (.inr ⟨h, by have h1 : W5.heap.size ≤ b' := h1; omega⟩)
      · refine ⟨by simpa using hszY, fun b' hb' hz hr => ?_, fun b' hb' => hb'.imp id And.right, fun b' hb' => ?_⟩
        · have hne : b' ≠ l1 := fun e => hr (e ▸ hRl)
          rw [World.putObj_heap_other hne, hsame b' hb' (fun h => hz (.inl h)) (fun h => by
            rcases hsub b' h with h | h
            · exact hz (.inr h)
            · exact hr h), hb5 b' hne]
        · rcases hb' with h | ⟨h, h'⟩
          · exact .inl h
          · refine .inr ?_
            rw [show (Y.putObj l1 (.loop (rec .ready none))).heap.size = Y.heap.size from by simp]
            rcases hkp.lt b' h with h1 | h1
            · have := hE.lt b' (.inr h1)
              omega
            · exact h1
    · obtain ⟨hjx, R', hkp⟩ := hY
      have hsame : ∀ b', b' < X.heap.size → ¬ O b' → ¬ R1 b' → Y.heap[b']? = W5.heap[b']? := fun b' h1 h2 h3 => hkp.same b' (by show b' < W5.heap.size; omega) h2 h3
      have hYl : Y.heap[l1]? = some (.loop { rec .ready none with state := .busy }) := (hsame l1 hlt (fun h => hl1z (.inl h)) (fun h => hl1z (.inr h))).trans hl5
      have hszY : X.heap.size ≤ Y.heap.size := by have : W5.heap.size ≤ Y.heap.size := hkp.size; omega
      have hYD : Y.heap[D]? = some (.deferred (some [])) := by rw [hsame D hltD (fun h => hDz (.inl h)) (fun h => hDz (.inr h)), hb5 D (by omega)]; exact hDX
      have hend := run_endRound (P := Tryz.prog) (some .ret) hYl
      have hput : ({ ({ rec .ready none with state := .busy } : Loop) with state := if (some Code.ret : Option Code).isNone then LoopState.ready else .done, pending := some .ret } : Loop) = rec .done (some .ret) := by rw [hrec]; rfl
      rw [hput] at hend
      refine ⟨_, _, hend, .inr ⟨rfl, ⟨hqx _ _ hjx (Quiet.putObj hYl (by omega) _), World.putObj_heap_same (by omega), ?_⟩, fun b' => Rin b' ∨ (R' b' ∧ X.heap.size ≤ b'), ?_⟩⟩
      · rw [World.putObj_heap_other (by omega)]; exact hYD
      · refine ⟨by simpa using hszY, fun b' hb' hz hr => ?_, fun b' hb' => hb'.imp id And.right, fun b' hb' => ?_⟩
        · have hne : b' ≠ l1 := fun e => hr (e ▸ hRl)
          rw [World.putObj_heap_other hne, hsame b' hb' (fun h => hz (.inl h)) (fun h => by
            rcases hsub b' h with h | h
            · exact hz (.inr h)
            · exact hr h), hb5 b' hne]
        · rcases hb' with h | ⟨h, h'⟩
          · exact .inl h
          · refine .inr ?_
            rw [show (Y.putObj l1 (.loop (rec .done (some .ret)))).heap.size = Y.heap.size from by simp]
            rcases hkp.lt b' h with h1 | h1
            · have := hE.lt b' (.inr h1)
              omega
            · exact h1
  · refine ⟨Rz, hq _ _ _ _ (hq _ _ _ _ hJ0 hs.calm.q) (hQ4 _), ⟨(hQ4 0).size, fun b' hb' _ => by
      rcases (hQ4 w.heap.size).same b' hb' with h | ⟨h, _⟩
      · exact h
      · omega, fun b' h => .inl h, fun b' h => Nat.lt_of_lt_of_le (herew.lt b' h) (hQ4 0).size⟩, hL4, hD4, fun h => by have := herew.lt _ h; omega, fun h => by have := herew.lt _ h; omega, fun b' h => .inl h, ⟨by omega, by omega⟩⟩
  · rintro en Y ⟨⟨v, rfl⟩, hY⟩
    have fin : ∀ (rc : Loop) (a' : Act), a'.defers = [{ target := .collected D, args := #[] }] → Y.heap[l1]? = some (.loop rc) → Y.heap[D]? = some (.deferred (some [])) → ((∃ R, J L.length R Y) ∨ Jx Y) → ∀ o', LeavesInM Fence.wide kn Tryz.prog Tryz.f127 a'.tmps (fun e Y => (∃ v, e = .returned v) ∧ ((∃ R, J (L.map itemA).length R Y) ∨ Jx Y)) a'.defers .returning (Y.putObj l1 (.loop o')) := by
      intro rc a' hdf hl hd hh o'
      rw [hdf]
      have hlw : l1 < Y.heap.size := (Array.getElem?_eq_some_iff.1 hl).1
      refine ⟨by simp, .inl ⟨D, _, rfl, run_takeDeferred (by rw [World.putObj_heap_other (by omega)]; exact hd), ?_⟩⟩
      refine ⟨.tuple #[], by simp [results], ⟨_, rfl⟩, ?_⟩
      have q1 : Quiet W.heap.size Y (Y.putObj l1 (.loop o')) := Quiet.putObj hl (by omega) _
      have q2 : ∀ o'', Quiet W.heap.size (Y.putObj l1 (.loop o')) ((Y.putObj l1 (.loop o')).putObj D o'') := fun o'' => Quiet.putD (by rw [World.putObj_heap_other (by omega)]; exact hd) (by omega) _
      rw [List.length_map]
      rcases hh with ⟨R, hh⟩ | hh
      · exact .inl ⟨R, hq _ _ _ _ hh (q1.trans (q2 _))⟩
      · exact .inr (hqx _ _ hh (q1.trans (q2 _)))
    rcases hY with ⟨R, R1, hj, hE, hl, hd, _⟩ | ⟨hj, hl, hd⟩
    · refine ⟨none, _, by have := run_endLoop (P := Tryz.prog) hl (by rw [hrec]; simp); rw [this, hrec], ?_⟩
      exact fin _ _ (by show _ ++ a1.defers = _; rw [hs.defers]; rfl) hl hd (.inl ⟨R1, by simpa using hj⟩) _
    · refine ⟨some .ret, _, by have := run_endLoop (P := Tryz.prog) hl (by rw [hrec]; simp); rw [this, hrec], ?_⟩
      exact wpIn_ret (fin _ _ (by show _ ++ a1.defers = _; rw [hs.defers]; rfl) hl hd (.inr hj) _)
end Go.Proofs.YtpngkkalomiggaaGreatDoor

namespace Go.Proofs.YtpngkkalomiggaaGreatDoor
open Go Go.AH Go.RowKit
noncomputable def LGa : Lang := { LG0 with it := fun _ _ => none }
theorem fdAllA : ∀ f d, LGa.fd f = some d → FdOk Tryz.prog LGa f d := fun f d h => ⟨(fdAll f d h).fn, (fdAll f d h).name, (fdAll f d h).body, (fdAll f d h).code, (fdAll f d h).keys⟩
theorem h184 : Holds T gl Tryz.prog 184 mIndexByte := mIndexByte_holds Tryz.func184 (by kernel_rfl) (by kernel_rfl) (by kernel_rfl) (by kernel_rfl)
theorem h107 : Holds T gl Tryz.prog 107 mCount := mCount_holds Tryz.func107 (by kernel_rfl) (by kernel_rfl) (by kernel_rfl) (by kernel_rfl)
theorem ovAll : ovTab.All fun f M => Holds T gl Tryz.prog f M := ⟨h107, ⟨clone50, ⟨clone48, ⟨clone18, trivial, trivial⟩, trivial⟩, ⟨clone80, ⟨clone77, trivial, trivial⟩, trivial⟩⟩, ⟨clone169, ⟨clone159, ⟨clone123, trivial, trivial⟩, trivial⟩, ⟨h184, trivial, trivial⟩⟩⟩
theorem ovA : ∀ f M, LGa.ov f = some M → Holds LGa.ty LGa.glob Tryz.prog f M := fun f M h => Tab.All.find ovAll f M h
theorem itA : ItOk Tryz.prog LGa := fun C hC d fuel k => itersOk_none (fun f caps => by cases k <;> rfl)
theorem interpA (n : Nat) (f : FuncId) : Holds T gl Tryz.prog f (interp LGa 300 n f) := interp_holds (g := LGa) tyOk ovA fdAllA itA 300 n f
noncomputable def ov0 : FxOv := ovP LGa
theorem ov0_ok : OvOk LGa ov0 := ovP_ok LGa
/-- Known calls of the language without iterators. -/
theorem factA {kn : FuncId → Option Facts} (hkn : KnOk Tryz.prog LGa kn) {f : FuncId} {args : List V} {out : Out} (h : fm T gl LGa kn ov0 300 60 f args [] = some out) : FactAt Tryz.prog LGa f args out :=
  factAt_of (interpM_holds (g := LGa) tyOk ovA fdAllA itA hkn 300 60 f) (fm_is ov0_ok 60 f args [] out h)
noncomputable def kn0 : FuncId → Option Facts := fun _ => none
theorem kn0_ok : KnOk Tryz.prog LGa kn0 := fun f l h => by cases h
/-- A table of known calls. -/
def KL (f : FuncId) : Facts → Prop
  | [] => True
  | q :: r => FactAt Tryz.prog LGa f q.1 q.2 ∧ KL f r
theorem KL.mem {f : FuncId} : ∀ {l : Facts}, KL f l → ∀ q ∈ l, FactAt Tryz.prog LGa f q.1 q.2
  | _ :: _, h, q, hq => by
    rcases List.mem_cons.1 hq with rfl | hq
    · exact h.1
    · exact KL.mem h.2 q hq
def KnAll (t : Tab Facts) : Prop := t.All KL
theorem knOf {t : Tab Facts} (h : KnAll t) : KnOk Tryz.prog LGa t.find := fun f l hl q hq => KL.mem (Tab.All.find h f l hl) q hq
end Go.Proofs.YtpngkkalomiggaaGreatDoor
