/- Code, run. -/
import Derived.Test.YtecplbjggbelbaaAHC
namespace Go.AH
open Go Go.RowKit

section
variable {E : Env} {P : Program} {Z : Nat → Prop} {n m : Nat} {s : St} {β : Nat → Loc} {w w' : World} {a : Act} {h h0 : Nat → Ob} {β0 : Nat → Loc} {w0 : World}

def ExOk (E : Env) (Z : Nat → Prop) (s : St) (β : Nat → Loc) (w : World) : Ex → Exit → Prop
  | .normal, .normal => True
  | .exit i, .exit j => i = j
  | .ret, .ret => True
  | .panic v, .panic chain => v.noRef = true ∧ ∃ y, chain = [{ v := y, recovered := false }] ∧ Rep E.ty w (Own Z s.ob β) v noR y
  | _, _ => False
def Fresh (s : St) : Prop := ∀ i, s.next ≤ i → s.ob i = .dead
def Post (E : Env) (Z : Nat → Prop) (n m : Nat) (h0 : Nat → Ob) (β0 : Nat → Loc) (w0 : World) (x : Ex × St) : Exit → Act → World → Prop := fun e a w =>
  ∃ β, Rel E Z n x.2 β a w ∧ Fresh x.2 ∧ Wk m h0 β0 w0 x.2.ob β w ∧ ExOk E Z x.2 β w x.1 e

theorem kept_heap {O : Nat → Prop} (hh : w'.heap = w.heap) : Kept w w' O O := ⟨by rw [hh]; exact Nat.le_refl _, fun _ _ _ => by rw [hh], fun _ _ h => h⟩
theorem Cx.heap {T : TypeId → Ty} {G : Nat → V} (cx : Cx T G Z h β w) (hh : w'.heap = w.heap) : Cx T G Z h β w' := {
  ob := fun i => (cx.ob i).kept (kept_heap hh) (fun _ _ h => h) (fun _ => by rw [hh])
  ro := cx.ro
  inj := cx.inj
  zlt := fun b hb => by rw [hh]; exact cx.zlt b hb
  zown := cx.zown
  glob := fun g => Rep.kept (kept_heap hh) _ _ _ _ (fun _ _ h => h) (cx.glob g) }
theorem Rel.heap (r : Rel E Z n s β a w) (hh : w'.heap = w.heap) : Rel E Z n s β a w' := ⟨r.cx.heap hh, fun t => Rep.kept (kept_heap hh) _ _ _ _ (fun _ _ h => h) (r.slots t), r.size, r.defers⟩
theorem Wk.heap (k : Wk m h0 β0 w0 h β w) (hh : w'.heap = w.heap) (ho : w'.os = w.os) (ht : w'.tape = w.tape) (hp : w'.output = w.output) : Wk m h0 β0 w0 h β w' :=
  ⟨ho.trans k.os, ht.trans k.tape, hp.trans k.output, by rw [hh]; exact k.size, fun b hb hn => by rw [hh]; exact k.frame b hb hn, k.fresh, k.hd⟩

def dstOk (n : Nat) (ops : Array Oper) : Bool := ops.toList.all fun o => match o.dst with | some d => Nat.blt d n | none => true
theorem dstOk_spec {ops : Array Oper} (h : dstOk n ops = true) : ∀ (i : Nat) (t : Tmp), (ops[i]?).bind (fun o : Oper => o.dst) = some t → t < n := by
  intro i t ht
  unfold dstOk at h
  rw [List.all_eq_true] at h
  cases ho : ops[i]? with
  | none => rw [ho] at ht; cases ht
  | some o =>
    rw [ho] at ht
    have h1 := h o (by
      have : ops.toList[i]? = some o := by rw [Array.getElem?_toList]; exact ho
      exact List.mem_of_getElem? this)
    have ht : o.dst = some t := ht
    rw [ht] at h1
    exact Nat.le_of_ble_eq_true h1
def codeOk (n : Nat) : Code → Bool
  | .region _ ops _ => dstOk n ops
  | .seq a b => codeOk n a && codeOk n b
  | .cond _ a b => codeOk n a && codeOk n b
  | .block _ b => codeOk n b
  | .loop b => codeOk n b
  | _ => true

theorem region_sound (hT : TyOk P E.ty) (hC : ∀ g, Holds E.ty E.glob P g (E.C g)) {id : Nat} {ops : Array Oper} {draw : Bool} (hd : dstOk n ops = true) {x : Ex × St} (he : (exec E m (.region id ops draw) s).eval = some x)
    (r : Rel E Z n s β a w) (hf : Fresh s) (hw : Wk m h0 β0 w0 s.ob β w) : (Code.region id ops draw).wp P (Post E Z n m h0 β0 w0 x) a w := by
  rw [exec] at he
  split at he
  · simp [Tr.eval] at he
  · rename_i hok
    obtain ⟨x1, e1, e2⟩ := eval_bind he
    have hd' := dstOk_spec hd
    have hdead : ∀ j i, inR s.next j i → s.ob i = .dead := fun j i hi => hf i (by unfold inR at hi; omega)
    have fresh : ∀ (s' : St), (∀ i, s.ob i = .dead → (∀ j, j < ops.size → ¬ inR s.next j i) → s'.ob i = .dead) → ∀ i, s.next + 64 * ops.toList.length ≤ i → s'.ob i = .dead := by
      intro s' hs' i hi
      have hl : ops.toList.length = ops.size := by simp
      exact hs' i (hf i (by omega)) (fun j hj hc => by unfold inR at hc; omega)
    cases draw with
    | false =>
      have hl : ops.toList.length = ops.size := by simp
      refine wp_region ?_
      rw [hl] at e1
      refine ops_sound hT hC hd' (List.range ops.size) s β a w x1 r List.nodup_range (fun j _ i hi => hdead j i hi) e1 ⟨fun s' β' a' w' hx r' st' d' n' => ?_, fun v s' β' a' w' y hx hnr r' st' hy d' n' => ?_⟩
      · subst hx
        simp only [Tr.eval, Option.some.injEq] at e2
        subst e2
        exact ⟨β', ⟨r'.cx, r'.slots, r'.size, r'.defers⟩, fresh s' (fun i hi hj => d' i hi (fun j hj2 => hj j (by simpa using hj2))), hw.trans st'.wk, trivial⟩
      · subst hx
        simp only [Tr.eval, Option.some.injEq] at e2
        subst e2
        exact ⟨β', ⟨r'.cx, r'.slots, r'.size, r'.defers⟩, fresh s' (fun i hi hj => d' i hi (fun j hj2 => hj j (by simpa using hj2))), hw.trans st'.wk, hnr, y, rfl, hy⟩
    | true =>
      have hl : ops.toList.length = ops.size := by simp
      have hok' : regionOk E ops.toList = true := by
        cases hq : regionOk E ops.toList with
        | true => rfl
        | false => rw [hq] at hok; simp at hok
      refine wp_region_draw (fun t => ?_)
      rw [hl] at e1
      have r1 : Rel E Z n s β a { w with drawn := w.drawn + 1 } := r.heap rfl
      have hw1 : Wk m h0 β0 w0 s.ob β { w with drawn := w.drawn + 1 } := hw.heap rfl rfl rfl rfl
      have hfil : (List.range ops.size).filter (fun i => !(Array.replicate ops.size false).getD i true) = List.range ops.size := by
        rw [List.filter_eq_self]
        intro i hi
        have : i < ops.size := by simpa using hi
        simp [Array.getD_eq_getD_getElem?, this]
      have key : ∀ md, wpAny P md ops (Post E Z n m h0 β0 w0 x) ops.size (Array.replicate ops.size false) a { w with drawn := w.drawn + 1 } := by
        intro md
        refine any_sound hT hC hd' hok' md ops.size _ s β a _ x1 r1 (by simp) (fun i o ho hl2 => ?_) (by rw [hfil]; simp) (fun j _ i hi => hdead j i hi) (by rw [hfil]; exact e1) (fun s' β' a' w' hx r' st' d' n' => ?_)
        · have hi := (Array.getElem?_eq_some_iff.1 ho).1
          simp [Array.getD_eq_getD_getElem?, hi] at hl2
        · subst hx
          simp only [Tr.eval, Option.some.injEq] at e2
          subst e2
          exact ⟨β', ⟨r'.cx, r'.slots, r'.size, r'.defers⟩, fresh s' d', hw1.trans st'.wk, trivial⟩
      unfold Region.schedule
      split
      · exact wpAny_sound ops.size _ _ a _ (key _)
      · exact wpAny_sound ops.size _ _ a _ (key _)

/- What is kept at a loop's head. -/
theorem ofList_zip (f : Nat → V) : ∀ (l : List Nat) (t : Nat), ofList .top (l.zip (l.map f)) t = .top ∨ ofList .top (l.zip (l.map f)) t = f t
  | [], t => .inl rfl
  | i :: l, t => by
    rw [List.map_cons, List.zip_cons_cons, ofList]
    split
    · rename_i hb
      exact .inr (by rw [nat_of_beq hb])
    · exact ofList_zip f l t
theorem canon_pre (keep : List Nat) (m : Nat) (s : St) : ∀ i, i < m → (canonIds keep m s)[i]? = some i := fun i hi => reach_range _ m _ hi
theorem genC_zero (i g : Nat) (hi : i < m) (h : genC m i g = 0) : g = 0 := by
  unfold genC at h
  have : Nat.blt i m = true := Nat.ble_eq_true_of_le hi
  rw [this] at h
  simp only at h
  omega
theorem canon_sound (keep : List Nat) (r : Rel E Z n s β a w) : Rel E Z n (mkSt keep (canonV keep m s) (canonO keep m s)) (reL β (canonIds keep m s)) a w := {
  cx := r.cx.re (reach_nodup _ _) (fun b hb => .inl hb) r.cx.zlt (fun i _ mi => r.cx.zown i mi)
  slots := fun t => by
    have hO : ∀ b, Own Z (reH s.ob (genC m) (canonIds keep m s)) (reL β (canonIds keep m s)) b → Own Z s.ob β b := reOwn (fun b hb => .inl hb)
    show Rep _ _ _ (ofList .top (keep.zip (keep.map fun k => reV s.ob (genC m) (canonIds keep m s) (s.slot k))) t) _ _
    rcases ofList_zip (fun k => reV s.ob (genC m) (canonIds keep m s) (s.slot k)) keep t with h1 | h1
    · rw [h1]; exact trivial
    · rw [h1]; exact (r.slots t).re hO
  size := r.size
  defers := r.defers }
theorem mkSt_fresh (keep : List Nat) (vs : List V) (os : List Ob) : Fresh (mkSt keep vs os) := fun i hi => by
  show hOf os i = .dead
  rw [hOf_get, List.getElem?_eq_none hi]
  rfl
theorem canon_wk (hn : New h0) (keep : List Nat) (k : Wk m h0 β0 w0 s.ob β w) : Wk m h0 β0 w0 (mkSt keep (canonV keep m s) (canonO keep m s)).ob (reL β (canonIds keep m s)) w :=
  k.re hn (canon_pre keep m s) (fun i g hi h => genC_zero i g hi h)

/-- A loop whose round has an index that falls. -/
theorem least {p : Nat → Prop} (h : ∃ k, p k) : ∃ k, p k ∧ ∀ j, p j → k ≤ j := by
  obtain ⟨k, hk⟩ := h
  induction k using Nat.strongRecOn with
  | _ k ih =>
    by_cases hc : ∃ j, j < k ∧ p j
    · obtain ⟨j, hj, hp⟩ := hc
      exact ih j hj hp
    · exact ⟨k, hk, fun j hj => by
        rcases Nat.lt_or_ge j k with h | h
        · exact absurd ⟨j, h, hj⟩ hc
        · exact h⟩
theorem wp_loop_ix {ι : Type} {c : Code} {Q : Exit → Act → World → Prop} (I : ι → Act → World → Prop) (μ : ι → Nat) (i0 : ι) (h0 : I i0 a w)
    (round : ∀ i a w, I i a w → c.wp P (Exit.then (fun a' w' => ∃ j, I j a' w' ∧ μ j < μ i) Q) a w) : (Code.loop c).wp P Q a w := by
  classical
  have ex : ∀ a w, (∃ i, I i a w) → ∃ k, (∃ i, I i a w ∧ μ i = k) ∧ ∀ j, (∃ i, I i a w ∧ μ i = j) → k ≤ j := fun a w ⟨i, hi⟩ => least ⟨μ i, i, hi, rfl⟩
  let M : Act → World → Nat := fun a w => if hx : ∃ i, I i a w then (ex a w hx).choose else 0
  refine wp_loop (fun a w => ∃ i, I i a w) M ⟨i0, h0⟩ (fun a w hx => ?_)
  obtain ⟨⟨i, hi, hm⟩, _⟩ := (ex a w hx).choose_spec
  have hM : M a w = μ i := by show (if hx : _ then _ else _) = _; rw [dif_pos hx]; exact hm.symm
  refine wp_mono (round i a w hi) (fun e a' w' hq => ?_)
  cases e with
  | normal =>
    obtain ⟨j, hj, hlt⟩ := hq
    have hx' : ∃ i, I i a' w' := ⟨j, hj⟩
    refine ⟨hx', ?_⟩
    have hmin := (ex a' w' hx').choose_spec.2 (μ j) ⟨j, hj, rfl⟩
    have hM' : M a' w' = (ex a' w' hx').choose := by show (if hx : _ then _ else _) = _; rw [dif_pos hx']
    rw [hM, hM']
    omega
  | _ => exact hq

def LoopNext (E : Env) (key : Nat) (μ : List V → List Ob → Nat) (vs : List V) (os : List Ob) (r : Ex × List V × List Ob) : Ex × List V × List Ob → Prop
  | (.normal, vs', os') => μ vs' os' < μ vs os ∧ (E.L key vs' os').eval = some r
  | y => y = r
/-- What is asked of a loop's model. -/
def LoopLaw (E : Env) (m : Nat) (b : Code) : Prop := ∃ μ : List V → List Ob → Nat, ∀ vs os r, (E.L (loopKey b) vs os).eval = some r → ∃ y, (loopStep E m (loopKey b) b vs os).eval = some y ∧ LoopNext E (loopKey b) μ vs os r y
def Loops (E : Env) (m : Nat) : Code → Prop
  | .seq a b => Loops E m a ∧ Loops E m b
  | .cond _ a b => Loops E m a ∧ Loops E m b
  | .block _ b => Loops E m b
  | .loop b => LoopLaw E m b ∧ Loops E m b
  | _ => True

theorem exec_sound (hT : TyOk P E.ty) (hC : ∀ g, Holds E.ty E.glob P g (E.C g)) (hn : New h0) : ∀ (c : Code) (s : St) (x : Ex × St) (β : Nat → Loc) (a : Act) (w : World), codeOk n c = true → Loops E m c → (exec E m c s).eval = some x →
    Rel E Z n s β a w → Fresh s → Wk m h0 β0 w0 s.ob β w → c.wp P (Post E Z n m h0 β0 w0 x) a w
  | .skip, s, x, β, a, w, _, _, he, r, hf, hw => by
    simp only [exec, Tr.eval, Option.some.injEq] at he
    subst he
    exact wp_skip ⟨β, r, hf, hw, trivial⟩
  | .label l, s, x, β, a, w, _, _, he, r, hf, hw => by
    simp only [exec, Tr.eval, Option.some.injEq] at he
    subst he
    exact wp_label ⟨β, r, hf, hw, trivial⟩
  | .exit id, s, x, β, a, w, _, _, he, r, hf, hw => by
    simp only [exec, Tr.eval, Option.some.injEq] at he
    subst he
    exact wp_exit ⟨β, r, hf, hw, rfl⟩
  | .ret, s, x, β, a, w, _, _, he, r, hf, hw => by
    simp only [exec, Tr.eval, Option.some.injEq] at he
    subst he
    exact wp_ret ⟨β, r, hf, hw, trivial⟩
  | .region id ops draw, s, x, β, a, w, hc, _, he, r, hf, hw => region_sound hT hC hc he r hf hw
  | .seq c d, s, x, β, a, w, hc, hl, he, r, hf, hw => by
    rw [codeOk, Bool.and_eq_true] at hc
    rw [exec] at he
    obtain ⟨x1, e1, e2⟩ := eval_bind he
    refine wp_seq (wp_mono (exec_sound hT hC hn c s x1 β a w hc.1 hl.1 e1 r hf hw) (fun e a' w' hp => ?_))
    obtain ⟨β', r', hf', hw', hx⟩ := hp
    obtain ⟨ex, s1⟩ := x1
    cases ex with
    | normal =>
      cases e with
      | normal => exact exec_sound hT hC hn d s1 x β' a' w' hc.2 hl.2 e2 r' hf' hw'
      | _ => exact hx.elim
    | exit i =>
      simp only [Tr.eval, Option.some.injEq] at e2
      subst e2
      cases e with
      | exit j => exact ⟨β', r', hf', hw', hx⟩
      | _ => exact hx.elim
    | ret =>
      simp only [Tr.eval, Option.some.injEq] at e2
      subst e2
      cases e with
      | ret => exact ⟨β', r', hf', hw', hx⟩
      | _ => exact hx.elim
    | panic v =>
      simp only [Tr.eval, Option.some.injEq] at e2
      subst e2
      cases e with
      | panic ch => exact ⟨β', r', hf', hw', hx⟩
      | _ => exact hx.elim
    | goto l => cases e <;> exact hx.elim
  | .cond cn c d, s, x, β, a, w, hc, hl, he, r, hf, hw => by
    rw [codeOk, Bool.and_eq_true] at hc
    have hv := r.slots.ev r.cx.glob cn
    have fin : ∀ t, ev E s.slot cn = .bool t → (exec E m (if t then c else d) s).eval = some x → (Code.cond cn c d).wp P (Post E Z n m h0 β0 w0 x) a w := fun t ht e2 => by
      rw [ht] at hv
      refine wp_cond hv ?_
      cases t with
      | true => exact exec_sound hT hC hn c s x β a w hc.1 hl.1 e2 r hf hw
      | false => exact exec_sound hT hC hn d s x β a w hc.2 hl.2 e2 r hf hw
    cases cn with
    | tmp t =>
      simp only [exec] at he
      split at he
      · rename_i b hb
        have hb' : s.slot t = .bool b := hb
        refine fin b hb ?_
        cases b with
        | true =>
          simp only [Tr.eval] at he
          rw [upd_eq hb'] at he
          exact he
        | false =>
          simp only [Tr.eval] at he
          rw [upd_eq hb'] at he
          exact he
      · simp [Tr.eval] at he
    | _ =>
      simp only [exec] at he
      split at he
      · rename_i b hb
        refine fin b hb ?_
        cases b <;> (simp only [Tr.eval] at he; exact he)
      · simp [Tr.eval] at he
  | .block id c, s, x, β, a, w, hc, hl, he, r, hf, hw => by
    rw [codeOk] at hc
    rw [exec] at he
    obtain ⟨x1, e1, e2⟩ := eval_bind he
    refine wp_block (wp_mono (exec_sound hT hC hn c s x1 β a w hc hl e1 r hf hw) (fun e a' w' hp => ?_))
    obtain ⟨β', r', hf', hw', hx⟩ := hp
    obtain ⟨ex, s1⟩ := x1
    cases ex with
    | normal =>
      simp only [Tr.eval, Option.some.injEq] at e2
      subst e2
      cases e with
      | normal => exact ⟨β', r', hf', hw', hx⟩
      | _ => exact hx.elim
    | exit i =>
      cases e with
      | exit j =>
        have hij : i = j := hx
        subst hij
        simp only at e2
        show if i = id then _ else _
        split at e2
        · rename_i hb
          simp only [Tr.eval, Option.some.injEq] at e2
          subst e2
          rw [if_pos (nat_of_beq hb)]
          exact ⟨β', r', hf', hw', trivial⟩
        · rename_i hb
          simp only [Tr.eval, Option.some.injEq] at e2
          subst e2
          rw [if_neg (fun he => by rw [he, show Nat.beq id id = true from Nat.beq_refl id] at hb; cases hb)]
          exact ⟨β', r', hf', hw', rfl⟩
      | _ => exact hx.elim
    | ret =>
      simp only [Tr.eval, Option.some.injEq] at e2
      subst e2
      cases e with
      | ret => exact ⟨β', r', hf', hw', hx⟩
      | _ => exact hx.elim
    | panic v =>
      simp only [Tr.eval, Option.some.injEq] at e2
      subst e2
      cases e with
      | panic ch => exact ⟨β', r', hf', hw', hx⟩
      | _ => exact hx.elim
    | goto l => cases e <;> exact hx.elim
  | .loop b, s, x, β, a, w, hc, hl, he, r, hf, hw => by
    rw [codeOk] at hc
    obtain ⟨⟨μ, hμ⟩, hlb⟩ := hl
    rw [exec] at he
    obtain ⟨res, e1, e2⟩ := eval_bind he
    simp only [Tr.eval, Option.some.injEq] at e2
    subst e2
    refine wp_loop_ix (ι := List V × List Ob) (fun i a w => (E.L (loopKey b) i.1 i.2).eval = some res ∧ ∃ β, Rel E Z n (mkSt (E.keep (loopKey b)) i.1 i.2) β a w ∧ Wk m h0 β0 w0 (hOf i.2) β w) (fun i => μ i.1 i.2)
      (canonV (E.keep (loopKey b)) m s, canonO (E.keep (loopKey b)) m s) ⟨e1, _, canon_sound _ r, canon_wk hn _ hw⟩ (fun i a w ⟨hL, β, r, hw⟩ => ?_)
    obtain ⟨vs, os⟩ := i
    obtain ⟨y, hy1, hy2⟩ := hμ vs os res hL
    unfold loopStep at hy1
    obtain ⟨x1, f1, f2⟩ := eval_bind hy1
    refine wp_mono (exec_sound hT hC hn b _ x1 β a w hc hlb f1 r (mkSt_fresh _ _ _) hw) (fun e a' w' hp => ?_)
    obtain ⟨β', r', hf', hw', hx⟩ := hp
    obtain ⟨ex, s1⟩ := x1
    have out : ∀ ex', y = (ex', canonV (E.keepX (loopKey b)) m s1, canonO (E.keepX (loopKey b)) m s1) → y = res → ExOk E Z (mkSt (E.keepX (loopKey b)) (canonV (E.keepX (loopKey b)) m s1) (canonO (E.keepX (loopKey b)) m s1)) (reL β' (canonIds (E.keepX (loopKey b)) m s1)) w' ex' e →
        Post E Z n m h0 β0 w0 (res.1, mkSt (E.keepX (loopKey b)) res.2.1 res.2.2) e a' w' := by
      intro ex' h1 h2 h3
      rw [← h2, h1]
      exact ⟨_, canon_sound _ r', mkSt_fresh _ _ _, canon_wk hn _ hw', h3⟩
    cases ex with
    | normal =>
      simp only [Tr.eval, Option.some.injEq] at f2
      subst f2
      cases e with
      | normal =>
        obtain ⟨g1, g2⟩ := hy2
        exact ⟨(canonV (E.keep (loopKey b)) m s1, canonO (E.keep (loopKey b)) m s1), ⟨g2, _, canon_sound _ r', canon_wk hn _ hw'⟩, g1⟩
      | _ => exact hx.elim
    | exit i =>
      simp only [Tr.eval, Option.some.injEq] at f2
      subst f2
      cases e with
      | exit j => exact out (.exit i) rfl hy2 hx
      | _ => exact hx.elim
    | ret =>
      simp only [Tr.eval, Option.some.injEq] at f2
      subst f2
      cases e with
      | ret => exact out .ret rfl hy2 hx
      | _ => exact hx.elim
    | panic v =>
      simp only [Tr.eval, Option.some.injEq] at f2
      subst f2
      cases e with
      | panic ch =>
        obtain ⟨k1, z, k2, k3⟩ := hx
        refine out (.panic v) rfl hy2 ⟨k1, z, k2, ?_⟩
        exact Rep.kept (Kept.less (reOwn (fun b hb => .inl hb))) _ _ _ _ (fun _ _ h => h) k3
      | _ => exact hx.elim
    | goto l => cases e <;> exact hx.elim
  | .scope b, s, x, β, a, w, _, _, he, _, _, _ => by simp [exec, Tr.eval] at he
  | .goto l, s, x, β, a, w, _, _, he, _, _, _ => by simp [exec, Tr.eval] at he
  | .refuse l, s, x, β, a, w, _, _, he, _, _, _ => by simp [exec, Tr.eval] at he
  | .rangeFunc _ _ _ _, s, x, β, a, w, _, _, he, _, _, _ => by simp [exec, Tr.eval] at he
end
end Go.AH
