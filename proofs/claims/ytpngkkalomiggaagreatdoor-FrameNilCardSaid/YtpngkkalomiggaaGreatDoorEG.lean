/- A part of the proof: AHVis, AHAny, AHLaid, AHRow. -/
import Derived.Test.YtpngkkalomiggaaGreatDoorED
import Derived.RangeFuncBound
import Derived.OrdersIn
import Derived.Test.YtpngkkalomiggaaGreatDoorEE
import Derived.LaidMore
import Derived.Lib.LaidTab
import Derived.ProofKit
import Derived.Below
import Derived.ChangeSame
import Derived.Carry
import Derived.Deep.Slices
import Derived.Deep.Fields
import Derived.Deep.DeepHandedRow
import Derived.Deep.DeepWitnessRowRef
import Derived.LaidOnce
import Derived.Stop.Joined
set_option linter.all false
namespace Go.AH
open Go Go.RowKit

section
variable {T : TypeId → Ty} {G : Nat → V} {E : Env} {P : Program} {Z Z' : Nat → Prop} {n lo : Nat} {d0 : Dq} {s s' : St} {β : Nat → Loc} {w w' : World} {a : Act} {ops : Array Oper} {base : Nat}

/-- What a function's frame keeps. -/
structure Pin (ts : List Nat) (a a' : Act) : Prop where
  size : a'.tmps.size = a.tmps.size
  tmps : ∀ t ∈ ts, a'.tmps.getD t undef = a.tmps.getD t undef
theorem Pin.refl {ts : List Nat} {a : Act} : Pin ts a a := ⟨rfl, fun _ _ => rfl⟩
theorem Pin.trans {ts : List Nat} {a b c : Act} (h : Pin ts a b) (k : Pin ts b c) : Pin ts a c := ⟨k.size.trans h.size, fun t ht => (k.tmps t ht).trans (h.tmps t ht)⟩
def free (ts : List Nat) (o : Oper) : Bool := (match o.dst with | some d => !ts.contains d | none => true) && !isDefer o.op
theorem Pin.put {ts : List Nat} {a : Act} {o : Oper} (hf : free ts o = true) (x : Value) : Pin ts a (a.put o.dst x) := by
  refine ⟨put_size _ _ _, fun t ht => ?_⟩
  unfold free at hf
  rw [Bool.and_eq_true] at hf
  cases hd : o.dst with
  | none => rfl
  | some d =>
    have h1 := hf.1
    rw [hd] at h1
    have hne : d ≠ t := fun e => by
      subst e
      simp only [Bool.not_eq_true'] at h1
      rw [List.contains_iff_mem.2 ht] at h1
      cases h1
    show (a.tmps.setIfInBounds d x).getD t undef = _
    simp only [Array.getD_eq_getD_getElem?]
    rw [Array.getElem?_setIfInBounds_ne hne]
theorem wp_pin {ts : List Nat} {o : Oper} (hf : free ts o = true) {K : Act → World → Prop} {Q : Exit → Act → World → Prop} (h : o.wp P a w K Q) : o.wp P a w (fun a' w' => K a' w' ∧ Pin ts a a') Q := by
  unfold Oper.wp at *
  cases hr : (execOp a.eval o).run P w with
  | ok x w' =>
    rw [hr] at h
    cases x with
    | value v => exact ⟨h, Pin.put hf _⟩
    | skip => exact ⟨h, Pin.put hf _⟩
    | defer d =>
      have p := Pin.put (a := { a with defers := d :: a.defers }) hf undef
      exact ⟨h, p.size, p.tmps⟩
    | enter f args => exact Calls.mono h (fun e w'' he => by cases e <;> first | exact ⟨he, Pin.put hf _⟩ | exact he)
    | row r args => exact Rows.mono h (fun _ _ he => ⟨he, Pin.put hf _⟩)
    | _ => exact h.elim
  | halt r w' =>
    rw [hr] at h
    cases r <;> exact h
/-- One operation of a region, run by the abstract run. -/
theorem one_in {ts : List Nat} {k : Nat} {Q : Exit → Act → World → Prop} {j : Nat} {l : List Nat} {o : Oper} (hT : TyOk P E.ty) (hC : ∀ g, Holds E.ty E.glob P g (E.C g)) (r : Rel E Z n lo d0 s β a w) (hd : dstOk n ops = true) (hj : ops[j]? = some o) (hf : free ts o = true)
    (hfr : ∀ i, base + 64 * j ≤ i → i < base + 64 * j + 64 → s.ob i = .dead) (he : (stepOp E false noHint ops.toList base s j).eval = some (.go s'))
    (hQ : ∀ β' a' w', Rel E Z n lo d0 s' β' a' w' → Stp s.ob β w s'.ob β' w' → Touch s.ob s'.ob (base + 64 * j) → Pin ts a a' → wpOpsIn Fence.wide k P ops Q l a' w') : wpOpsIn Fence.wide k P ops Q (j :: l) a w := by
  have h1 : wpOp P ops (fun _ _ _ => False) j (fun a' w' => ∃ β', Rel E Z n lo d0 s' β' a' w' ∧ Stp s.ob β w s'.ob β' w' ∧ Touch s.ob s'.ob (base + 64 * j)) a w :=
    stepOp_sound hT hC r (dstOk_spec hd) hfr he ⟨fun s1 β1 a1 w1 hx r1 st1 t1 _ => by cases hx; exact ⟨β1, r1, st1, t1⟩, fun v s1 β1 w1 y hx => by cases hx⟩
  unfold wpOp at h1
  unfold wpOpsIn
  rw [hj] at h1 ⊢
  simp only at h1 ⊢
  have hnd : isDefer o.op = false := by
    unfold free at hf
    rw [Bool.and_eq_true] at hf
    simpa using hf.2
  split
  · rename_i hw
    rw [if_pos hw] at h1
    rcases h1 with h1 | h1
    · have h2 := wp_pin hf h1
      have h3 := op_in (k := k) (K' := wpOpsIn Fence.wide k P ops Q l) (free_wide (P := P)) hnd (fun a' w' ⟨⟨β', r', st', t'⟩, p'⟩ => hQ β' a' w' r' st' t' p') h2
      refine ⟨h3.1, ?_⟩
      have h4 := h3.2
      cases hr : ((o.semAt Fence.wide.round a.eval).run P w) with
      | ok x w' =>
        rw [hr] at h4
        cases x with
        | value v => exact h4
        | skip => exact h4
        | defer d => exact h4
        | enter f args => exact ⟨h4.1, h4.2.mono fun e w' he => by cases e <;> first | exact he | exact he.elim | (obtain ⟨_, _, hh⟩ := he; exact hh.elim)⟩
        | row r args => exact h4
        | round l f tmps assign body => exact ⟨h4.1, h4.2.mono fun e w' he => by cases e <;> first | exact he | exact he.elim | (obtain ⟨_, _, hh⟩ := he; exact hh.elim)⟩
        | _ => exact h4.elim
      | halt r w' =>
        rw [hr] at h4
        cases r <;> first | exact h4.elim | exact h4
    · obtain ⟨_, _, _, hh⟩ := h1
      exact hh.elim
  · rename_i hw
    rw [if_neg hw] at h1
    obtain ⟨β', r', st', t'⟩ := h1
    exact ⟨fun f _ => trivial, hQ β' _ w r' st' t' (Pin.put hf _)⟩
/-- Many of them. -/
theorem runs_in {ts : List Nat} {k : Nat} {Q : Exit → Act → World → Prop} (hT : TyOk P E.ty) (hC : ∀ g, Holds E.ty E.glob P g (E.C g)) (hd : dstOk n ops = true) {l2 : List Nat} {s' : St} :
    ∀ (l1 : List Nat) (s : St) (β : Nat → Loc) (a : Act) (w : World), Rel E Z n lo d0 s β a w → l1.Nodup → (∀ j ∈ l1, ∃ o, ops[j]? = some o ∧ free ts o = true) → (∀ j ∈ l1, ∀ i, inR base j i → s.ob i = .dead) → (stepOps E false noHint ops.toList base l1 s).eval = some (.go s') →
      (∀ β' a' w', Rel E Z n lo d0 s' β' a' w' → Stp s.ob β w s'.ob β' w' → (∀ i, s.ob i = .dead → (∀ j ∈ l1, ¬ inR base j i) → s'.ob i = .dead) → Pin ts a a' → wpOpsIn Fence.wide k P ops Q l2 a' w') → wpOpsIn Fence.wide k P ops Q (l1 ++ l2) a w
  | [], s, β, a, w, r, _, _, _, he, hQ => by
    simp only [stepOps, Tr.eval, Option.some.injEq, Rg.go.injEq] at he
    subst he
    exact hQ β a w r Stp.refl (fun i hi _ => hi) Pin.refl
  | j :: l1, s, β, a, w, r, hnd, hf, hdead, he, hQ => by
    rw [stepOps] at he
    obtain ⟨x1, h1, h2⟩ := eval_bind he
    rw [List.nodup_cons] at hnd
    obtain ⟨o, ho, hfo⟩ := hf j (by simp)
    cases x1 with
    | pan v s1 => simp [Tr.eval] at h2
    | go s1 =>
      refine one_in hT hC r hd ho hfo (fun i h3 h4 => hdead j (by simp) i ⟨h3, h4⟩) h1 (fun β1 a1 w1 r1 st1 t1 p1 => ?_)
      refine runs_in hT hC hd l1 s1 β1 a1 w1 r1 hnd.2 (fun k hk => hf k (by simp [hk])) (fun k hk i hi => touch_dead t1 (hdead k (by simp [hk]) i hi) (fun hj => hnd.1 (by rw [inR_disj hj hi]; exact hk))) h2 (fun β2 a2 w2 r2 st2 d2 p2 => ?_)
      exact hQ β2 a2 w2 r2 (st1.trans st2) (fun i hi hj => d2 i (touch_dead t1 hi (hj j (by simp))) (fun k hk => hj k (by simp [hk]))) (p1.trans p2)
/-- Others have changed what is theirs. -/
structure Elsewhere (Z : Nat → Prop) (w : World) (Z' : Nat → Prop) (w' : World) : Prop where
  size : w.heap.size ≤ w'.heap.size
  same : ∀ b, b < w.heap.size → ¬ Z b → w'.heap[b]? = w.heap[b]?
  new : ∀ b, Z' b → Z b ∨ w.heap.size ≤ b
  lt : ∀ b, Z' b → b < w'.heap.size
theorem Elsewhere.kept (h : Elsewhere Z w Z' w') : Kept w w' Z Z' := ⟨h.size, h.same, fun b hb hz hz' => by
  rcases h.new b hz' with h1 | h1
  · exact hz h1
  · omega⟩
theorem Elsewhere.keptOwn (h : Elsewhere Z w Z' w') {ob : Nat → Ob} : Kept w w' (Own Z ob β) (Own Z' ob β) := ⟨h.size, fun b hb hz => h.same b hb (fun hz' => hz (.inl hz')), fun b hb hz hz' => by
  rcases hz' with h1 | h1
  · rcases h.new b h1 with h2 | h2
    · exact hz (.inl h2)
    · omega
  · exact hz (.inr h1)⟩
theorem Cx.elsewhere {ob : Nat → Ob} (h : Elsewhere Z w Z' w') (cx : Cx T G Z ob β w) (hav : ∀ i, (ob i).alive = true → (β i).nil = false → ¬ Z (β i).b) : Cx T G Z' ob β w' := {
  ob := fun i => by
    by_cases ha : (ob i).alive = true
    · exact (cx.ob i).kept h.keptOwn (fun _ _ hr => hr) (fun hn => h.same _ ((cx.ob i).lt ha hn) (hav i ha hn))
    · have : ob i = .dead := by cases hq : ob i <;> first | rfl | exact absurd (by rw [hq]; rfl) ha
      rw [this]
      trivial
  ro := fun i ha hrw hn ho => by
    have h1 := cx.ro i ha hrw hn
    rcases ho with ho | ho
    · rcases h.new _ ho with h2 | h2
      · exact h1 (.inl h2)
      · have := (cx.ob i).lt ha hn
        omega
    · exact h1 (.inr ho)
  inj := cx.inj
  zlt := h.lt
  zown := fun i mi hz => by
    rcases h.new _ hz with h2 | h2
    · exact cx.zown i mi h2
    · have := (cx.ob i).lt (Ob.rw_alive mi.1) mi.2
      omega
  glob := fun g => Rep.kept h.keptOwn _ _ _ _ (fun _ _ hr => hr) (cx.glob g) }
/-- An operation that is wanted. -/
def Wanted (ops : Array Oper) (o : Oper) (a : Act) : Prop := Region.wanted o (yielded ops a.tmps) = true
theorem wanted_none {o : Oper} (h : o.guard = none) : Wanted ops o a := by
  unfold Wanted Region.wanted
  rw [h]
theorem move_in {k : Nat} {Q : Exit → Act → World → Prop} {j : Nat} {l : List Nat} {o : Oper} {x : Operand} (hj : ops[j]? = some o) (ho : o.op = .move x) (hw : Wanted ops o a)
    (h : wpOpsIn Fence.wide k P ops Q l (a.put o.dst (a.eval x)) w) : wpOpsIn Fence.wide k P ops Q (j :: l) a w := by
  unfold wpOpsIn
  rw [hj]
  simp only
  unfold Wanted at hw
  rw [if_pos hw]
  refine ⟨fun f _ => trivial, ?_⟩
  have hrun : (o.semAt Fence.wide.round a.eval).run P w = .ok (.value (a.eval x)) w := by
    show (execOp a.eval o).run P w = _
    simp [execOp, ho]
  rw [hrun]
  exact h
/-- A call of a yield. -/
theorem yield_in {k : Nat} {Q : Exit → Act → World → Prop} {j : Nat} {l : List Nat} {o : Oper} {cl : Call} {f : Operand} {y : Nat} {R : Ending → World → Prop} (hj : ops[j]? = some o) (ho : o.op = .call cl) (hf : cl.callee = .value f) (hw : Wanted ops o a)
    (hv : a.eval f = .func (.yield y) #[] #[]) (hy : YieldAt Fence.wide (k - 1) P y (cl.args.map a.eval) w R)
    (h : ∀ e w', R e w' → ∃ v, e = .returned v ∧ wpOpsIn Fence.wide k P ops Q l (a.put o.dst v) w') : wpOpsIn Fence.wide k P ops Q (j :: l) a w := by
  obtain ⟨callee, args, argTypes⟩ := cl
  simp only at hf
  subst hf
  obtain ⟨fn, tmps, assign, body, hrun, hround⟩ := hy
  unfold wpOpsIn
  rw [hj]
  simp only
  unfold Wanted at hw
  rw [if_pos hw]
  refine ⟨fun f _ => trivial, ?_⟩
  have hrun2 : (o.semAt Fence.wide.round a.eval).run P w = .ok (.round y fn tmps assign body) w := by
    show (execOp a.eval o).run P w = _
    rw [← hrun]
    simp [execOp, ho, resolve, hv, Deferred.ofValue, invoke]
  rw [hrun2]
  refine ⟨(fun hd => by cases hd), hround.mono fun e w' he => ?_⟩
  obtain ⟨v, rfl, h2⟩ := h e w' he
  exact h2
/-- A call of a function by its number. -/
theorem enter_in {k : Nat} {Q : Exit → Act → World → Prop} {j : Nat} {l : List Nat} {o : Oper} {cl : Call} {g : FuncId} {R : Ending → World → Prop} (hj : ops[j]? = some o) (ho : o.op = .call cl) (hf : cl.callee = .value (.func g)) (hw : Wanted ops o a)
    (hent : ∀ args w, (callFunc g args).run P w = .ok (.enter g args) w) (hy : CallsIn Fence.wide (k - 1) P g (cl.args.map a.eval) w R)
    (h : ∀ e w', R e w' → ∃ v, e = .returned v ∧ wpOpsIn Fence.wide k P ops Q l (a.put o.dst v) w') : wpOpsIn Fence.wide k P ops Q (j :: l) a w := by
  obtain ⟨callee, args, argTypes⟩ := cl
  simp only at hf
  subst hf
  unfold wpOpsIn
  rw [hj]
  simp only
  unfold Wanted at hw
  rw [if_pos hw]
  refine ⟨fun f _ => trivial, ?_⟩
  have hrun2 : (o.semAt Fence.wide.round a.eval).run P w = .ok (.enter g (args.map a.eval)) w := by
    show (execOp a.eval o).run P w = _
    rw [← hent]
    simp [execOp, ho, resolve, Act.eval, Deferred.ofValue, invoke]
  rw [hrun2]
  refine ⟨(fun hd => by cases hd), hy.mono fun e w' he => ?_⟩
  obtain ⟨v, rfl, h2⟩ := h e w' he
  exact h2
/-- A slot is set, to what is not known or to a truth. -/
theorem Rel.set (r : Rel E Z n lo d0 s β a w) {d : Tmp} (hd : d < n) {v : V} {x : Value} (hv : Rep E.ty w (Own Z s.ob β) v (RefRep E.ty s.ob β) x) : Rel E Z n lo d0 { s with slot := upd s.slot d v } β (a.put (some d) x) w := by
  refine ⟨r.cx, r.slots.put (d := some d) (fun t ht => by cases ht; rw [r.size]; exact hd) hv, by rw [put_size]; exact r.size, by rw [put_defers]; exact r.defers⟩
/-- After others' doings. -/
theorem Rel.elsewhere (r : Rel E Z n lo ⟨false, []⟩ s β a w) (h : Elsewhere Z w Z' w') (hav : ∀ i, (s.ob i).alive = true → (β i).nil = false → ¬ Z (β i).b) : Rel E Z' n lo ⟨false, []⟩ s β a w' :=
  ⟨r.cx.elsewhere h hav, fun t => Rep.kept h.keptOwn _ _ _ _ (fun _ _ hr => hr) (r.slots t), r.size, by
    obtain ⟨h1, l, h2, h3, _⟩ := r.defers
    have := h3 rfl
    subst this
    exact ⟨h1, [], h2, fun _ => rfl, List.nodup_nil, by simp⟩⟩
theorem Rel.noDefers (r : Rel E Z n lo ⟨false, []⟩ s β a w) : a.defers = [] := by
  obtain ⟨_, l, h2, h3, _⟩ := r.defers
  have := h3 rfl
  subst this
  simpa using h2
/-- Slots that hold trees, and no objects. -/
theorem Rel.start {l : List (Nat × V)} {β : Nat → Loc} (hsz : a.tmps.size = n) (hd : a.defers = []) (hz : ∀ b, Z b → b < w.heap.size) (hg : ∀ g, Rep E.ty w Z (E.glob g) noR (.pointer (some ⟨g, 0, none⟩)))
    (hs : ∀ t, Rep E.ty w Z (ofList .top l t) noR (a.tmps.getD t undef)) : Rel E Z n lo ⟨false, []⟩ ⟨ofList .top l, fun _ => .dead, 0⟩ β a w := by
  have hk : Kept w w Z (Own Z (fun _ => Ob.dead) β) := Kept.less (fun b hb => by
    rcases hb with hb | ⟨i, mi, _⟩
    · exact hb
    · exact absurd mi.1 (by simp [Ob.rw]))
  refine ⟨⟨fun i => trivial, fun i ha => absurd ha (by simp [Ob.alive]), fun i j _ mi => absurd mi.1 (by simp [Ob.rw]), hz, fun i mi => absurd mi.1 (by simp [Ob.rw]), fun g => Rep.kept hk _ _ _ _ (fun _ _ h => h.elim) (hg g)⟩,
    fun t => Rep.kept hk _ _ _ _ (fun _ _ h => h.elim) (hs t), hsz, ?_⟩
  rw [hd]
  exact Marks.nil Dq.nil_ok
/- Operations that leave the world alone. -/
def still (o : Oper) : Bool := match o.op with | .move _ | .pick .. | .load .. | .unOp .. | .fieldAddr .. => true | _ => false
theorem still_ev (hT : TyOk P E.ty) (r : Rel E Z n lo d0 s β a w) {o : Oper} (hs : still o = true) {ol : List Oper} {base j : Nat} {x : Rg} (he : (stepWith E false noHint ol base j o s).eval = some x) : ∃ y, (execOp a.eval o).run P w = .ok (.value y) w := by
  unfold stepWith at he
  rw [evOpF_eq] at he
  obtain ⟨rs, h1, _⟩ := eval_bind he
  have c : Ctx E P Z s.ob (viewOf false noHint ol base j o s.ob) β w (slotOf false ol o s.slot) a := ⟨hT, r.cx, fun i => .inr rfl, r.slots⟩
  unfold still at hs
  cases ho : o.op with
  | move x => obtain ⟨_, y, _, h2, _⟩ := op_move c ho h1; exact ⟨y, h2⟩
  | pick x y z => obtain ⟨_, y, _, h2, _⟩ := op_pick c ho h1; exact ⟨y, h2⟩
  | load t x => obtain ⟨_, y, _, h2, _⟩ := op_load c ho h1; exact ⟨y, h2⟩
  | unOp op t x => obtain ⟨_, y, _, h2, _⟩ := op_un c ho h1; exact ⟨y, h2⟩
  | fieldAddr t x f => obtain ⟨_, y, _, h2, _⟩ := op_fieldAddr c ho h1; exact ⟨y, h2⟩
  | _ => rw [ho] at hs; cases hs
theorem still_run (hT : TyOk P E.ty) (r : Rel E Z n lo d0 s β a w) {o : Oper} (hs : still o = true) (hd : dstOk n ops = true) {j : Nat} (hj : ops[j]? = some o) (hw : Region.wanted o (yielded ops a.tmps) = true) {x : Rg} (he : (stepOp E false noHint ops.toList base s j).eval = some x) :
    ∃ y, (execOp a.eval o).run P w = .ok (.value y) w := by
  unfold stepOp at he
  rw [Array.getElem?_toList, hj] at he
  simp only at he
  cases hg : o.guard with
  | none =>
    rw [hg] at he
    exact still_ev hT r hs he
  | some p =>
    obtain ⟨i, want⟩ := p
    rw [hg] at he
    simp only at he
    cases hdst : (ops.toList[i]?).bind (·.dst) with
    | none => rw [hdst] at he; simp [Tr.eval] at he
    | some d =>
      rw [hdst] at he
      simp only at he
      rw [Array.getElem?_toList] at hdst
      obtain ⟨y1, y2⟩ := yielded_of (ops := ops) r.slots hdst (by rw [r.size]; exact dstOk_spec hd i d hdst)
      split at he
      · rename_i b hb
        have hy := y1 b hb
        have hbw : b = want := by
          rw [Region.wanted, hg] at hw
          simp only [hy] at hw
          cases b <;> cases want <;> simp_all
        subst hbw
        cases b <;> simp only [Bool.not_false, Tr.eval, upd_eq hb] at he <;> exact still_ev hT r hs he
      · rename_i hb
        have hy := y2 hb
        rw [Region.wanted, hg] at hw
        simp only [hy] at hw
        simp at hw
      · simp [Tr.eval] at he
theorem one_still {ts : List Nat} {k : Nat} {Q : Exit → Act → World → Prop} {j : Nat} {l : List Nat} {o : Oper} (hT : TyOk P E.ty) (hC : ∀ g, Holds E.ty E.glob P g (E.C g)) (r : Rel E Z n lo d0 s β a w) (hd : dstOk n ops = true) (hj : ops[j]? = some o) (hf : free ts o = true) (hst : still o = true)
    (hfr : ∀ i, base + 64 * j ≤ i → i < base + 64 * j + 64 → s.ob i = .dead) (he : (stepOp E false noHint ops.toList base s j).eval = some (.go s'))
    (hQ : ∀ β' a', Rel E Z n lo d0 s' β' a' w → Stp s.ob β w s'.ob β' w → Touch s.ob s'.ob (base + 64 * j) → Pin ts a a' → wpOpsIn Fence.wide k P ops Q l a' w) : wpOpsIn Fence.wide k P ops Q (j :: l) a w := by
  have h1 : wpOp P ops (fun _ _ _ => False) j (fun a' w' => ∃ β', Rel E Z n lo d0 s' β' a' w' ∧ Stp s.ob β w s'.ob β' w' ∧ Touch s.ob s'.ob (base + 64 * j)) a w :=
    stepOp_sound hT hC r (dstOk_spec hd) hfr he ⟨fun s1 β1 a1 w1 hx r1 st1 t1 _ => by cases hx; exact ⟨β1, r1, st1, t1⟩, fun v s1 β1 w1 y hx => by cases hx⟩
  unfold wpOp at h1
  unfold wpOpsIn
  rw [hj] at h1 ⊢
  simp only at h1 ⊢
  split
  · rename_i hw
    rw [if_pos hw] at h1
    obtain ⟨y, hrun⟩ := still_run hT r hst hd hj hw he
    rcases h1 with h1 | h1
    · unfold Oper.wp at h1
      rw [hrun] at h1
      obtain ⟨β', r', st', t'⟩ := h1
      refine ⟨fun f _ => trivial, ?_⟩
      have hrun2 : (o.semAt Fence.wide.round a.eval).run P w = .ok (.value y) w := hrun
      rw [hrun2]
      exact hQ β' _ r' st' t' (Pin.put hf _)
    · obtain ⟨_, _, _, hh⟩ := h1
      exact hh.elim
  · rename_i hw
    rw [if_neg hw] at h1
    obtain ⟨β', r', st', t'⟩ := h1
    exact ⟨fun f _ => trivial, hQ β' _ r' st' t' (Pin.put hf _)⟩
theorem run_still {ts : List Nat} {k : Nat} {Q : Exit → Act → World → Prop} (hT : TyOk P E.ty) (hC : ∀ g, Holds E.ty E.glob P g (E.C g)) (hd : dstOk n ops = true) {l2 : List Nat} {s' : St} :
    ∀ (l1 : List Nat) (s : St) (β : Nat → Loc) (a : Act), Rel E Z n lo d0 s β a w → l1.Nodup → (∀ j ∈ l1, ∃ o, ops[j]? = some o ∧ free ts o = true ∧ still o = true) → (∀ j ∈ l1, ∀ i, inR base j i → s.ob i = .dead) → (stepOps E false noHint ops.toList base l1 s).eval = some (.go s') →
      (∀ β' a', Rel E Z n lo d0 s' β' a' w → Stp s.ob β w s'.ob β' w → Pin ts a a' → wpOpsIn Fence.wide k P ops Q l2 a' w) → wpOpsIn Fence.wide k P ops Q (l1 ++ l2) a w
  | [], s, β, a, r, _, _, _, he, hQ => by
    simp only [stepOps, Tr.eval, Option.some.injEq, Rg.go.injEq] at he
    subst he
    exact hQ β a r Stp.refl Pin.refl
  | j :: l1, s, β, a, r, hnd, hf, hdead, he, hQ => by
    rw [stepOps] at he
    obtain ⟨x1, h1, h2⟩ := eval_bind he
    rw [List.nodup_cons] at hnd
    obtain ⟨o, ho, hfo, hso⟩ := hf j (by simp)
    cases x1 with
    | pan v s1 => simp [Tr.eval] at h2
    | go s1 =>
      refine one_still hT hC r hd ho hfo hso (fun i h3 h4 => hdead j (by simp) i ⟨h3, h4⟩) h1 (fun β1 a1 r1 st1 t1 p1 => ?_)
      refine run_still hT hC hd l1 s1 β1 a1 r1 hnd.2 (fun k hk => hf k (by simp [hk])) (fun k hk i hi => touch_dead t1 (hdead k (by simp [hk]) i hi) (fun hj => hnd.1 (by rw [inR_disj hj hi]; exact hk))) h2 (fun β2 a2 r2 st2 p2 => ?_)
      exact hQ β2 a2 r2 (st1.trans st2) (p1.trans p2)
/-- Whether a guarded operation is wanted, by what stands in its guard's slot. -/
theorem guard_at (r : Rel E Z n lo d0 s β a w) (hd : dstOk n ops = true) {o : Oper} {i d : Nat} {want b : Bool} (hg : o.guard = some (i, want)) (hi : (ops[i]?).bind (fun o : Oper => o.dst) = some d) (hs : s.slot d = .bool b) : (Region.wanted o (yielded ops a.tmps) = true) ↔ b = want := by
  obtain ⟨y1, _⟩ := yielded_of (ops := ops) r.slots hi (by rw [r.size]; exact dstOk_spec hd i d hi)
  rw [Region.wanted, hg]
  simp only [y1 b hs]
  cases b <;> cases want <;> simp
theorem skip_in {ts : List Nat} {k : Nat} {Q : Exit → Act → World → Prop} {j : Nat} {l : List Nat} {o : Oper} (r : Rel E Z n lo d0 s β a w) (hd : dstOk n ops = true) (hj : ops[j]? = some o) (hf : free ts o = true) (hw : ¬ Region.wanted o (yielded ops a.tmps) = true)
    (hQ : Rel E Z n lo d0 { s with slot := putO s.slot o.dst (.tup []) } β (a.put o.dst undef) w → Pin ts a (a.put o.dst undef) → wpOpsIn Fence.wide k P ops Q l (a.put o.dst undef) w) : wpOpsIn Fence.wide k P ops Q (j :: l) a w := by
  unfold wpOpsIn
  rw [hj]
  simp only
  rw [if_neg hw]
  exact ⟨fun f _ => trivial, hQ (r.skip fun t ht => dstOk_spec hd j t (by rw [hj]; exact ht)) (Pin.put hf _)⟩
end
end Go.AH

namespace Go.AH
open Go Go.RowKit

section
variable {F : Fence} {n : Nat} {P : Program} {ops : Array Oper} {Q : Exit → Act → World → Prop} {md : Region.Mode}
theorem ready_mem {listed : Array Bool} {i : Nat} (h : i ∈ Region.ready md ops listed) : i < ops.size ∧ listed.getD i true = false ∧ ∃ o, ops[i]? = some o ∧ ∀ e ∈ o.after.toList, Region.binds md e = true → listed.getD e.on false = true := by
  unfold Region.ready at h
  obtain ⟨h1, h2⟩ := List.mem_filter.1 h
  rw [Bool.and_eq_true] at h2
  obtain ⟨h3, h4⟩ := h2
  refine ⟨by simpa using h1, by simpa using h3, ?_⟩
  cases ho : ops[i]? with
  | none => rw [ho] at h4; cases h4
  | some o =>
    rw [ho] at h4
    simp only [Option.map_some, Option.getD_some] at h4
    rw [Array.all_eq_true_iff_forall_mem] at h4
    refine ⟨o, rfl, fun e he hb => ?_⟩
    have := h4 e (by simpa using he)
    rw [hb] at this
    simpa using this
def openOf (ops : Array Oper) (listed : Array Bool) : Nat := ((List.range ops.size).filter fun i => !listed.getD i true).length
theorem any_inv (I : Array Bool → Act → World → Prop) (hsz : ∀ listed a w, I listed a w → listed.size = ops.size)
    (hstep : ∀ listed a w, I listed a w → ∀ i ∈ Region.ready md ops listed, wpOpIn F n P ops Q i (I (listed.setIfInBounds i true)) a w)
    (hend : ∀ listed a w, I listed a w → Region.ready md ops listed = [] → Q .normal a w) : ∀ (fuel : Nat) (listed : Array Bool) (a : Act) (w : World), I listed a w → openOf ops listed ≤ fuel → wpAnyIn F n P md ops Q fuel listed a w
  | 0, listed, a, w, hI, hf => by
    have hr : Region.ready md ops listed = [] := by
      rw [List.eq_nil_iff_forall_not_mem]
      intro i hi
      obtain ⟨h1, h2, _⟩ := ready_mem hi
      have : i ∈ (List.range ops.size).filter fun i => !listed.getD i true := List.mem_filter.2 ⟨by simpa using h1, by simp [h2]⟩
      have h3 := List.length_pos_of_mem this
      unfold openOf at hf
      omega
    exact ⟨hr, hend listed a w hI hr⟩
  | fuel + 1, listed, a, w, hI, hf => by
    refine ⟨fun hr => hend listed a w hI hr, fun i hi => wpOpIn_mono (fun a' w' hI' => any_inv I hsz hstep hend fuel _ a' w' hI' ?_) (hstep listed a w hI i hi)⟩
    obtain ⟨h1, h2, _⟩ := ready_mem hi
    have hls := hsz _ _ _ hI
    have hmem : i ∈ (List.range ops.size).filter fun i => !listed.getD i true := List.mem_filter.2 ⟨by simpa using h1, by simp [h2]⟩
    have hsub : ((List.range ops.size).filter fun j => !(listed.setIfInBounds i true).getD j true) = ((List.range ops.size).filter fun j => !listed.getD j true).erase i := by
      rw [List.Nodup.erase_eq_filter (List.nodup_range.filter _), List.filter_filter]
      refine List.filter_congr fun j hj => ?_
      simp only [Array.getD_eq_getD_getElem?]
      by_cases hij : i = j
      · subst hij
        rw [Array.getElem?_setIfInBounds_self_of_lt (by omega)]
        simp
      · rw [Array.getElem?_setIfInBounds_ne hij]
        have : (j != i) = true := by simp [Ne.symm hij]
        rw [this]
        simp
    unfold openOf at hf ⊢
    rw [hsub, List.length_erase_of_mem hmem]
    omega
theorem draw_any {id : Nat} {a : Act} {w : World} (h : ∀ md, wpAnyIn F n P md ops Q ops.size (Array.replicate ops.size false) a { w with drawn := w.drawn + 1 }) : (Code.region id ops true).wpIn F n P Q a w := by
  refine wpIn_region_draw fun t => ?_
  unfold Region.schedule
  split
  · exact wpAnyIn_sound ops.size _ _ a _ (h _)
  · exact wpAnyIn_sound ops.size _ _ a _ (h _)
end
section
variable {T : TypeId → Ty} {P : Program} {w : World} {a : Act} {o : Oper}
theorem run_fieldAddr (hT : TyOk P T) {t : TypeId} {x : Operand} {f : Nat} {gs : List (Nat × Nat × Bool)} (hd : (T t).d = .struct gs) {off n : Nat} {ag : Bool} (hf : gs[f]? = some (off, n, ag)) {b k : Nat} (ho : o.op = .fieldAddr t x f) (hv : a.eval x = .pointer (some ⟨b, k, none⟩)) :
    (execOp a.eval o).run P w = .ok (.value (.pointer (some ⟨b, k + off, none⟩))) w := by
  have row := hT.row (ok_of hd (by simp))
  obtain ⟨fs, hu, rfl, _, hfs, _⟩ := row.struct hd
  rw [List.getElem?_map] at hf
  cases hq : fs.toList[f]? with
  | none => rw [hq] at hf; cases hf
  | some fl =>
    rw [hq] at hf
    simp only [Option.map_some, Option.some.injEq, Prod.mk.injEq] at hf
    obtain ⟨rfl, rfl, rfl⟩ := hf
    have hq' : fs[f]? = some fl := by simpa using hq
    obtain ⟨h1, h2, h3⟩ := hfs fl (List.mem_of_getElem? hq)
    simp [execOp, ho, hv, Instr.fieldAt, run_underlying hu, hq', Instr.sureAddr, fieldPlace, cells_info h1, h3, Addr.add_lit]
theorem run_load1 (hT : TyOk P T) {t : TypeId} {x : Operand} (ht : (T t).ok = true) (ha : (T t).agg = false) {b k : Nat} {u : Value} {r : List Value} (hl : Lies w b k (u :: r)) (ho : o.op = .load t x) (hv : a.eval x = .pointer (some ⟨b, k, none⟩)) : (execOp a.eval o).run P w = .ok (.value u) w := by
  obtain ⟨_, r2⟩ := run_loadAt (P := P) hT ht hl
  simp [execOp, ho, hv, r2 ha u r rfl]
theorem run_loadA (hT : TyOk P T) {t : TypeId} {x : Operand} (ht : (T t).ok = true) (ha : (T t).agg = true) {b k : Nat} {l : List Value} (hl : Lies w b k l) (hs : (T t).size ≤ l.length) (ho : o.op = .load t x) (hv : a.eval x = .pointer (some ⟨b, k, none⟩)) : (execOp a.eval o).run P w = .ok (.value (.agg (l.take (T t).size).toArray)) w := by
  obtain ⟨r1, _⟩ := run_loadAt (P := P) hT ht hl
  simp [execOp, ho, hv, r1 ha hs]
theorem run_nilCheck {x : Operand} {p : Addr} (ho : o.op = .nilCheck x) (hv : a.eval x = .pointer (some p)) : (execOp a.eval o).run P w = .ok (.value (.pointer (some p))) w := by
  simp [execOp, ho, hv]
theorem run_move {x : Operand} (ho : o.op = .move x) : (execOp a.eval o).run P w = .ok (.value (a.eval x)) w := by
  simp [execOp, ho]
theorem run_not {x : Operand} {t : TypeId} {b : Bool} (ho : o.op = .unOp .not t x) (hv : a.eval x = .bool b) : (execOp a.eval o).run P w = .ok (.value (.bool !b)) w := by
  simp [execOp, ho, hv, Op.unary]
end
end Go.AH

namespace Go.AH
open Go Go.RowKit

section
variable {P : Program} {T : TypeId → Ty} {w : World} {O : Nat → Prop} {H : Type} {enc : TypeId × Value → H}

/-- What the row lists of one variable. -/
theorem laid_at : ∀ {l : List (String × DataW Unit)} {ps : List MemPlace}, DataW.LaidVars P w l ps → ∀ {n : String} {d : DataW Unit}, (n, d) ∈ l →
    ∃ g t cs fuel p, P.globalNamed n = some g ∧ (P.globals[g]?).map (·.type) = some t ∧ w.var? P n = some cs ∧ DataW.trod (fun _ => ()) P w 0 (fun _ => true) false fuel t cs.toList = some (d, p)
  | [], _, _, _, _, hm => by cases hm
  | (m, e) :: r, ps, h, n, d, hm => by
    obtain ⟨g, t, cs, fuel, p, q, h1, h2, h3, h4, h5, _⟩ := h
    rcases List.mem_cons.1 hm with hm | hm
    · injection hm with a b
      subst a b
      exact ⟨g, t, cs, fuel, p, h1, h2, h3, h4⟩
    · exact laid_at h5 hm
/-- An array of cells that reads as data: cell by cell. -/
theorem arr_of {base : Nat} {sp : Nat → Bool} {held : Bool} {fuel : Nat} {t e : TypeId} {n : Nat} {cs : List Value} {ds : List (DataW H)} {p : List MemPlace}
    (ht : P.underlying t = some (.array n e)) (hce : P.cellsOf e = 1) (hct : P.cellsOf t = n)
    (h : DataW.trod enc P w base sp held fuel t cs = some (.agg ds, p)) : ∃ m, cs.length = ds.length ∧ ∀ (i : Nat) (d : DataW H), ds[i]? = some d → ∃ v q, cs[i]? = some v ∧ DataW.trod enc P w base sp held m e [v] = some (d, q) := by
  cases fuel with
  | zero => simp [DataW.trod] at h
  | succ fuel =>
    simp only [DataW.trod, ht, hce, hct, Nat.mul_one] at h
    split at h
    · rename_i hl
      obtain ⟨xs, hm, hx⟩ := Option.map_eq_some_iff.1 h
      have hxs : xs.map (·.1) = ds := by
        have := congrArg Prod.fst hx
        simpa using this
      have hxl : xs.length = n := by simpa using Lib.mapM_length hm
      subst hxs
      refine ⟨fuel, by simp [hl, hxl], fun i d hd => ?_⟩
      rw [List.getElem?_map] at hd
      have hi : i < n := by
        rcases Nat.lt_or_ge i n with h | h
        · exact h
        · rw [List.getElem?_eq_none (by omega)] at hd
          cases hd
      obtain ⟨b, hb, hf⟩ := Lib.mapM_at hm i i (by simp [hi])
      rw [hb] at hd
      injection hd with hd
      subst hd
      have h1 : cs[i]? = some cs[i] := List.getElem?_eq_getElem (by omega)
      have h2 : (cs.drop i).take 1 = [cs[i]] := by
        rw [List.drop_eq_getElem_cons (by omega)]
        rfl
      rw [h2] at hf
      exact ⟨_, b.2, h1, hf⟩
    · cases h
theorem repL_of : ∀ {cs : List Value} {vs : List V}, cs.length = vs.length → (∀ (i : Nat) (u : V), vs[i]? = some u → ∃ v, cs[i]? = some v ∧ Rep T w O u noR v) → RepL T w O vs noR cs
  | [], [], _, _ => rfl
  | c :: cs, v :: vs, hl, h => by
    obtain ⟨x, hx, hr⟩ := h 0 v rfl
    simp only [List.getElem?_cons_zero, Option.some.injEq] at hx
    subst hx
    exact ⟨_, _, rfl, hr, repL_of (by simpa using hl) (fun i u hu => h (i + 1) u (by simpa using hu))⟩
  | [], _ :: _, hl, _ => by simp at hl
  | _ :: _, [], hl, _ => by simp at hl
/-- A package-level variable, as a tree. -/
theorem glob_rep (hO : ∀ b, ¬ O b) {n : String} {g : Nat} {cs : Array Value} {vs : List V} (hg : P.globalNamed n = some g) (hv : w.var? P n = some cs) (hr : RepL T w O vs noR cs.toList) :
    Rep T w O (.pref vs) noR (.pointer (some ⟨g, 0, none⟩)) := by
  refine ⟨g, 0, cs.toList, rfl, ?_, hO g, fun j u hj => ?_, hr⟩
  · simp only [World.var?, hg, Option.bind_some] at hv
    split at hv
    · rename_i hh
      exact (Array.getElem?_eq_some_iff.1 hh).1
    · cases hv
  · rw [Nat.zero_add, World.var?_cell hg hv j, ← Array.getElem?_toList, hj]
/-- A table of strings. -/
theorem glob_strs (hO : ∀ b, ¬ O b) {l : List (String × DataW Unit)} {ps : List MemPlace} (hL : DataW.LaidVars P w l ps) {n : String} {g : Nat} {t e : TypeId} {m : Nat} {d : DataW Unit} (ss : List (List UInt8))
    (hm : (n, d) ∈ l) (hd : d = .agg (ss.map fun s => .lit (.string s))) (hg : P.globalNamed n = some g) (hty : (P.globals[g]?).map (·.type) = some t) (ht : P.underlying t = some (.array m e)) (he : P.underlying e = some .string) (hce : P.cellsOf e = 1) (hct : P.cellsOf t = m) :
    Rep T w O (.pref (ss.map V.str)) noR (.pointer (some ⟨g, 0, none⟩)) := by
  obtain ⟨g', t', cs, fuel, p, h1, h2, h3, h4⟩ := laid_at hL hm
  obtain rfl := Option.some.inj (hg.symm.trans h1)
  obtain rfl := Option.some.inj (hty.symm.trans h2)
  subst hd
  obtain ⟨k, hl, hel⟩ := arr_of ht hce hct h4
  refine glob_rep hO hg h3 (repL_of (by simpa using hl) (fun i u hu => ?_))
  rw [List.getElem?_map] at hu
  cases hs : ss[i]? with
  | none => rw [hs] at hu; cases hu
  | some s =>
    rw [hs] at hu
    injection hu with hu
    subst hu
    obtain ⟨v, q, hv, hq⟩ := hel i (.lit (.string s)) (by rw [List.getElem?_map, hs]; rfl)
    obtain ⟨b, hb, hx, _⟩ := DataW.trod_string he hq
    injection hb with hb
    subst hb
    injection hx with hx _
    injection hx with hx
    injection hx with hx
    exact ⟨_, hv, b, rfl, hx.symm⟩
/-- A table of integers. -/
theorem glob_ints (hO : ∀ b, ¬ O b) {l : List (String × DataW Unit)} {ps : List MemPlace} (hL : DataW.LaidVars P w l ps) {n : String} {g : Nat} {t e : TypeId} {m : Nat} {d : DataW Unit} (kd : IntKind) (zs : List Int)
    (hm : (n, d) ∈ l) (hd : d = .agg (zs.map fun s => .lit (.int kd s))) (hg : P.globalNamed n = some g) (hty : (P.globals[g]?).map (·.type) = some t) (ht : P.underlying t = some (.array m e)) (he : P.underlying e = some (.int kd)) (hce : P.cellsOf e = 1) (hct : P.cellsOf t = m) :
    Rep T w O (.pref (zs.map (V.int kd))) noR (.pointer (some ⟨g, 0, none⟩)) := by
  obtain ⟨g', t', cs, fuel, p, h1, h2, h3, h4⟩ := laid_at hL hm
  obtain rfl := Option.some.inj (hg.symm.trans h1)
  obtain rfl := Option.some.inj (hty.symm.trans h2)
  subst hd
  obtain ⟨k, hl, hel⟩ := arr_of ht hce hct h4
  refine glob_rep hO hg h3 (repL_of (by simpa using hl) (fun i u hu => ?_))
  rw [List.getElem?_map] at hu
  cases hs : zs[i]? with
  | none => rw [hs] at hu; cases hu
  | some s =>
    rw [hs] at hu
    injection hu with hu
    subst hu
    obtain ⟨v, q, hv, hq⟩ := hel i (.lit (.int kd s)) (by rw [List.getElem?_map, hs]; rfl)
    obtain ⟨b, hb, hx, _⟩ := DataW.trod_int he hq
    injection hb with hb
    subst hb
    injection hx with hx _
    injection hx with hx
    injection hx with _ hx
    subst hx
    exact ⟨_, hv, rfl⟩
/-- A table of functions. -/
def fnV : Option (FuncId × List UInt8) → V
  | none => .nilf
  | some x => .clo x.1 [] []
def fnD : Option (FuncId × List UInt8) → DataW (List UInt8)
  | none => .nil
  | some x => .held x.2
theorem glob_funcs (hO : ∀ b, ¬ O b) {n : String} {d : DataW Unit} (hF : funcsAt P w n d) {g : Nat} {t e : TypeId} {m : Nat} {xs rs : Array TypeId} {va : Bool} (fs : List (Option (FuncId × List UInt8)))
    (hd : d.funcsOut = .agg (fs.map fnD)) (hg : P.globalNamed n = some g) (hty : (P.globals[g]?).map (·.type) = some t) (ht : P.underlying t = some (.array m e)) (he : P.underlying e = some (.func xs rs va)) (hce : P.cellsOf e = 1) (hct : P.cellsOf t = m)
    (hone : ∀ x, some x ∈ fs → x.2 ≠ [] ∧ ((List.range P.funcs.size).filter fun f => (P.funcs[f]?).any (·.name.toUTF8.data.toList == x.2)) = [x.1]) :
    Rep T w O (.pref (fs.map fnV)) noR (.pointer (some ⟨g, 0, none⟩)) := by
  obtain ⟨g', t', cs, fuel, p, h1, h2, h3, h4⟩ := hF
  obtain rfl := Option.some.inj (hg.symm.trans h1)
  obtain rfl := Option.some.inj (hty.symm.trans h2)
  rw [hd] at h4
  obtain ⟨k, hl, hel⟩ := arr_of ht hce hct h4
  refine glob_rep hO hg h3 (repL_of (by simpa using hl) (fun i u hu => ?_))
  rw [List.getElem?_map] at hu
  cases hs : fs[i]? with
  | none => rw [hs] at hu; cases hu
  | some s =>
    rw [hs] at hu
    injection hu with hu
    subst hu
    obtain ⟨v, q, hv, hq⟩ := hel i (fnD s) (by rw [List.getElem?_map, hs]; rfl)
    refine ⟨v, hv, ?_⟩
    cases s with
    | none =>
      cases k with
      | zero => simp [DataW.trod] at hq
      | succ k =>
        unfold DataW.trod at hq
        rw [he] at hq
        cases v <;> simp_all [fnD, fnV, Rep]
    | some x =>
      obtain ⟨h5, h6⟩ := hone x (List.mem_of_getElem? hs)
      obtain ⟨f0, nm⟩ := x
      cases nm with
      | nil => exact absurd rfl h5
      | cons b r =>
        have := func_of_trod (f0 := f0) he h6 hq
        subst this
        exact ⟨_, _, rfl, rfl, rfl⟩

theorem cx_glob {G : Nat → V} (hG : ∀ (O : Nat → Prop), (∀ b, ¬ O b) → ∀ g, Rep T w O (G g) noR (.pointer (some ⟨g, 0, none⟩))) (β : Nat → Loc) : Cx T G noZ (hOf []) β w := {
  ob := fun _ => trivial
  ro := fun i h => by cases h
  inj := fun i _ _ h => by have := h.1; cases this
  zlt := fun b h => h.elim
  zown := fun i h => by have := h.1; cases this
  glob := fun g => hG _ own_none g }
/-- The function returns what its model says, and leaves what was there. -/
theorem top_calls_glob {G : Nat → V} {f : FuncId} {fn : Func} {c : Code} (hf : P.funcs[f]? = some fn) (hname : (fn.name == "runtime.NumGoroutine") = false) (hb : fn.body = some c) {C : Model} (h : Holds T G P f C) {args : List V} {cargs : Array Value} {b : Bool}
    (hG : ∀ (O : Nat → Prop), (∀ b, ¬ O b) → ∀ g, Rep T w O (G g) noR (.pointer (some ⟨g, 0, none⟩)))
    (hargs : RepL T w (fun _ => False) args noR cargs.toList) (hC : (C args []).eval = some (.ret (.bool b) [])) : Calls P f cargs w fun e w' => e = .returned (.bool b) ∧ Below w.heap.size w w' := by
  have hargs2 : RepL T w (Own noZ (hOf []) (fun _ => default)) args (RefRep T (hOf []) (fun _ => default)) cargs.toList :=
    RepL.kept ⟨Nat.le_refl _, fun _ _ _ => rfl, fun b _ _ => own_none b⟩ _ _ _ _ (fun _ _ h => h.elim) hargs
  have key := h args [] _ hC (by simp) noZ (fun _ => default) w cargs (cx_glob hG _) hargs2
  have h1 : fn.name ≠ "runtime.NumGoroutine" := by simpa using hname
  have hrun : (callFunc f cargs).run P w = .ok (.enter f cargs) w := by simp [callFunc, hf, h1, hb]
  rcases key with ⟨_, k⟩ | ⟨x, w', k, _⟩
  · refine k.mono (fun e w' he => ?_)
    cases e with
    | returned x =>
      obtain ⟨v, objs', β', h2, gd⟩ := he
      simp only [Out.ret.injEq] at h2
      obtain ⟨rfl, rfl⟩ := h2
      have hx : x = .bool b := gd.rep
      subst hx
      exact ⟨rfl, gd.wk.os, gd.wk.tape, gd.wk.output, gd.wk.size, fun k hk => gd.wk.frame k hk (fun i hi => by have := hi.1; cases this)⟩
    | panicked ch => obtain ⟨_, _, _, _, h2, _⟩ := he; cases h2
    | outgrown => exact he.elim
  · rw [hrun] at k
    cases k
end
end Go.AH

namespace Go.AH
open Go Go.ChangeShapes Go.WideShapes Go.ChangeAt Go.RowKit
section
variable {H : Type} {enc : TypeId × Value → H} {P : Program} {w : World} {base : Nat} {spare : Nat → Bool} {held : Bool}
theorem post_of_below {f : Func} {s : ChangeSpec} {apart fresh handsOn again : Bool} {W W' : World} {args : Array Value} {v : Value} {ds gs : List (DataW H)} {before pa pv : List MemPlace}
    (hW : DataW.Whole enc P f.params.toList s.vars apart W args.toList ds gs before)
    (hres : ∀ (b : Nat) (sp : Nat → Bool) (hd : Bool), DataW.TrodAll enc P W' b sp hd f.resultTypes.toList (v.resultList f.resultTypes.size) (s.fn H (ds ++ gs)).results [])
    (hargs : ∀ sp : Nat → Bool, (∀ p ∈ before, sp p.block = true) → DataW.TrodAll enc P W' 0 sp true f.params.toList args.toList (s.fn H (ds ++ gs)).args pa)
    (hvars : ∀ sp : Nat → Bool, (∀ p ∈ before, sp p.block = true) → DataW.TrodVars enc P W' sp s.vars (s.fn H (ds ++ gs)).vars pv)
    (hps : before = pa ++ pv) (hb : Below W.heap.size W W')
    (hok : ∀ (j : Nat) (t : TypeId) (r : Value), f.resultTypes[j]? = some t → (v.resultList f.resultTypes.size)[j]? = some r → Value.okWide P W' .any 0 t r) :
    s.post enc P f apart fresh handsOn again W args v W' := by
  have hlt : ∀ p ∈ before, p.block < W.heap.size := fun p hp => hW.lt p hp
  have hold : ∀ p ∈ before, (fun b => decide (b < W.heap.size)) p.block = true := fun p hp => by simpa using hlt p hp
  refine ⟨ds, gs, before, [], pa, pv, hW, hres _ _ _, hargs _ hold, hvars _ hold, World.keptBut_mono (fun p hp => ⟨hp, ?_⟩) (hb.frame (· ∈ before)), fun _ => ?_⟩
  · rw [hps, List.mem_append] at hp
    exact Or.inr hp
  · obtain ⟨_, _, _, _, _, hz, hn⟩ := hW
    refine ⟨hok, _, _, ([] ++ pa) ++ pv, ⟨[] ++ pa, pv, trodAll_append (hargs _ (fun _ _ => rfl)) (hres _ _ _), hvars _ (fun _ _ => rfl), rfl, ?_, ?_⟩, ?_⟩
    · intro b off hp
      have hin : MemPlace.cell b off ∈ before := by rw [hps]; simpa using hp
      rw [hb.frozen (hlt _ hin)]
      exact hz b off hin
    · intro ha
      have := hn ha
      rw [hps] at this
      simpa using this
    · intro p hp _
      rw [hps]
      simpa using hp
end
/-- What was read before the call reads so behind it, whatever the arguments are. -/
theorem trodAll_stays {H : Type} {enc : TypeId × Value → H} {P : Program} (hl : laidOutB P = true) {W W' : World} {sp' : Nat → Bool} :
    ∀ (ts : List TypeId) (vs : List Value) (ds : List (DataW H)) (ps : List MemPlace), (ts.all fun t => P.readableRec t && decide (t < P.types.size)) = true →
      DataW.TrodAll enc P W 0 (fun _ => true) true ts vs ds ps → (∀ p ∈ ps, W.sameAt W' p) → (∀ p ∈ ps, sp' p.block = true) → DataW.TrodAll enc P W' 0 sp' true ts vs ds ps
  | [], _, _, _, _, h, _, _ => by
    obtain ⟨rfl, rfl, rfl⟩ := trodAll_nil h
    exact rfl
  | t :: ts, _, _, _, ht, h, hs, hsp => by
    obtain ⟨v, vs', d, ds', p, q, rfl, rfl, rfl, hd, hr⟩ := trodAll_cons h
    simp only [List.all_cons, Bool.and_eq_true, decide_eq_true_eq] at ht
    have h1 := ht.1
    exact ⟨p, q, WideElems.Trod_stays hl h1.1 h1.2 hd (fun x hx => hs x (by simp [hx])) (fun x hx => hsp x (by simp [hx])),
      trodAll_stays hl ts vs' ds' q ht.2 hr (fun x hx => hs x (by simp [hx])) (fun x hx => hsp x (by simp [hx])), rfl⟩



/-- What a run leaves of the listed variables. -/
noncomputable def metLeaves (P : Program) (w : World) (fuel M : Nat) (l : List (String × DataW Unit)) : Option (List (String × DataW Unit) × List (DataW (List UInt8))) :=
  (DataW.laidRun P w fuel ((l.filter fun x => x.2.handleName?.isNone).map (·.1))).bind fun x =>
    if nodupBits M x.2 0 && laidRowsB P w x.2 && (l.filter fun x => x.2.handleName?.isSome && x.2.funcsIn?.isNone).all (handleAtB P w)
    then (funcsRun P w fuel ((funcsListed l).map (·.1))).map fun y => (x.1, y) else none
theorem laidMetH_of_leaves {P : Program} {w : World} {fuel M : Nat} {l : List (String × DataW Unit)}
    (d : metLeaves P w fuel M l = some (l.filter fun x => x.2.handleName?.isNone, (funcsListed l).map (·.2.funcsOut))) : laidMetH P l w := by
  unfold metLeaves at d
  simp only [Option.bind_eq_some_iff] at d
  obtain ⟨x, hx, d⟩ := d
  split at d
  · rename_i hb
    simp only [Bool.and_eq_true] at hb
    simp only [Option.map_eq_some_iff, Prod.mk.injEq] at d
    obtain ⟨y, hy, e1, e2⟩ := d
    exact laidMetH_of_parts3 (fuel := fuel) (laidMet_of_run (ps := x.2) fuel (by rw [hx, ← e1]) (decide_eq_true (nodupBits_sound hb.1.1).1) hb.1.2) hb.2 (by rw [hy, e2])
  · cases d
end Go.AH
