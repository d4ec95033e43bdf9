/- Regions, in the text's order and in a drawn one. -/
import Derived.Test.YtecplbjggbelbaaAHZ
import Derived.Orders
namespace Go.AH
open Go Go.RowKit

/-- The abstract state stands for the walk's. -/
structure Rel (E : Env) (Z : Nat → Prop) (n : Nat) (s : St) (β : Nat → Loc) (a : Act) (w : World) : Prop where
  cx : Cx E.ty E.glob Z s.ob β w
  slots : SRep E.ty w (Own Z s.ob β) (RefRep E.ty s.ob β) s.slot a
  size : a.tmps.size = n
  defers : a.defers = []

section
variable {E : Env} {P : Program} {Z : Nat → Prop} {n : Nat} {s : St} {β : Nat → Loc} {w : World} {a : Act} {ops : Array Oper} {base : Nat} {next : Act → World → Prop} {Q : Exit → Act → World → Prop}

theorem put_getD (a : Act) {d : Option Tmp} {x : Value} (hd : ∀ t, d = some t → t < a.tmps.size) (t : Nat) : (a.put d x).tmps.getD t undef = if d = some t then x else a.tmps.getD t undef := by
  cases d with
  | none => simp [Act.put]
  | some d =>
    have := hd d rfl
    simp only [Act.put, Array.getD_eq_getD_getElem?]
    rw [Array.getElem?_setIfInBounds]
    by_cases hdt : d = t
    · subst hdt; simp [this]
    · simp [hdt]
theorem put_size (a : Act) (d : Option Tmp) (x : Value) : (a.put d x).tmps.size = a.tmps.size := by cases d <;> simp [Act.put]
theorem put_defers (a : Act) (d : Option Tmp) (x : Value) : (a.put d x).defers = a.defers := by cases d <;> rfl
theorem putO_get (s : Nat → V) (d : Option Nat) (v : V) (t : Nat) : putO s d v t = if d = some t then v else s t := by
  cases d with
  | none => simp [putO]
  | some d =>
    by_cases hdt : d = t
    · subst hdt; simp [putO, upd_same]
    · simp [putO, upd_other s v (Ne.symm hdt), hdt]
theorem SRep.put {T : TypeId → Ty} {O : Nat → Prop} {R : V → Value → Prop} {s : Nat → V} (hs : SRep T w O R s a) {d : Option Tmp} {v : V} {x : Value} (hd : ∀ t, d = some t → t < a.tmps.size) (hr : Rep T w O v R x) : SRep T w O R (putO s d v) (a.put d x) := by
  intro t
  rw [put_getD a hd, putO_get]
  by_cases h : d = some t
  · rw [if_pos h, if_pos h]; exact hr
  · rw [if_neg h, if_neg h]; exact hs t
theorem Rel.skip (r : Rel E Z n s β a w) {d : Option Tmp} (hd : ∀ t, d = some t → t < n) : Rel E Z n { s with slot := putO s.slot d (.tup []) } β (a.put d undef) w :=
  ⟨r.cx, r.slots.put (fun t ht => by rw [r.size]; exact hd t ht) ⟨#[], rfl, rfl⟩, by rw [put_size]; exact r.size, by rw [put_defers]; exact r.defers⟩

/-- What a region's operation comes to. -/
def After (E : Env) (Z : Nat → Prop) (n : Nat) (s : St) (β : Nat → Loc) (a : Act) (w : World) (fr : Nat) (x : Rg) (next : Act → World → Prop) (Q : Exit → Act → World → Prop) : Prop :=
  (∀ s' β' a' w', x = .go s' → Rel E Z n s' β' a' w' → Stp s.ob β w s'.ob β' w' → Touch s.ob s'.ob fr → s'.next = s.next → next a' w') ∧
  (∀ v s' β' w' y, x = .pan v s' → v.noRef = true → Rel E Z n s' β' a w' → Stp s.ob β w s'.ob β' w' → Rep E.ty w' (Own Z s'.ob β') v noR y → Touch s.ob s'.ob fr → s'.next = s.next → Q (.panic [{ v := y, recovered := false }]) a w')

theorem stepWith_sound (hT : TyOk P E.ty) (hC : ∀ g, Holds E.ty E.glob P g (E.C g)) (r : Rel E Z n s β a w) {draw : Bool} {ol : List Oper} {j : Nat} {o : Oper} (hd : ∀ t, o.dst = some t → t < n)
    (hfr : ∀ i, base + 64 * j ≤ i → i < base + 64 * j + 64 → s.ob i = .dead) {x : Rg} (he : (stepWith E draw ol base j o s).eval = some x) (hA : After E Z n s β a w (base + 64 * j) x next Q) : o.wp P a w next Q := by
  unfold stepWith at he
  obtain ⟨rs, h1, h2⟩ := eval_bind he
  have hsees : Sees (viewOf draw ol base j o s.ob) s.ob := by
    intro i
    unfold viewOf
    cases draw with
    | false => exact .inr rfl
    | true =>
      simp only
      cases blind o with
      | true => exact .inl rfl
      | false =>
        simp only [maskOb]
        split
        · exact .inr rfl
        · exact .inl rfl
  have hslots : SRep E.ty w (Own Z s.ob β) (RefRep E.ty s.ob β) (slotOf draw ol o s.slot) a := by
    intro t
    unfold slotOf
    cases draw with
    | false => exact r.slots t
    | true =>
      simp only [maskSlot]
      split
      · exact r.slots t
      · exact trivial
  refine op_sound (view := viewOf draw ol base j o s.ob) (s := slotOf draw ol o s.slot) ⟨hT, r.cx, hsees, hslots⟩ hfr hC h1 ⟨fun v u y w' β' hr hdone => ?_, fun v u y w' β' hr hnr hdone => ?_⟩
  · subst hr
    simp only at h2
    split at h2
    · simp only [Tr.eval, Option.some.injEq] at h2
      refine hA.1 _ β' (a.put o.dst y) w' h2.symm ⟨hdone.cx, ?_, by rw [put_size]; exact r.size, by rw [put_defers]; exact r.defers⟩ hdone.st hdone.touch rfl
      refine SRep.put (fun t => ?_) (fun t ht => by rw [r.size]; exact hd t ht) hdone.rep
      exact hdone.st.rep r.cx (r.slots t)
    · simp [Tr.eval] at h2
  · subst hr
    simp only at h2
    cases draw with
    | true => simp [Tr.eval] at h2
    | false =>
      simp only [Tr.eval, Option.some.injEq] at h2
      refine hA.2 v _ β' w' y h2.symm hnr ⟨hdone.cx, fun t => hdone.st.rep r.cx (r.slots t), r.size, r.defers⟩ hdone.st (noRef_noR hdone.rep hnr) hdone.touch rfl
theorem yielded_of {T : TypeId → Ty} {O : Nat → Prop} {R : V → Value → Prop} {sl : Nat → V} (hs : SRep T w O R sl a) {i d : Nat} (hd : (ops[i]?).bind (fun o : Oper => o.dst) = some d) (hsz : d < a.tmps.size) :
    (∀ b, sl d = .bool b → yielded ops a.tmps i = some b) ∧ (sl d = .tup [] → yielded ops a.tmps i = none) := by
  have h1 : ((ops[i]?).bind (·.dst)).bind (a.tmps[·]?) = some (a.tmps.getD d undef) := by
    rw [hd]
    simp [Array.getD_eq_getD_getElem?, hsz]
  refine ⟨fun b hb => ?_, fun hb => ?_⟩
  · have := hs d
    rw [hb] at this
    unfold yielded
    rw [h1, show a.tmps.getD d undef = .bool b from this]
  · have := hs d
    rw [hb] at this
    obtain ⟨arr, h2, h3⟩ := this
    unfold yielded
    rw [h1, h2]
theorem stepOp_sound (hT : TyOk P E.ty) (hC : ∀ g, Holds E.ty E.glob P g (E.C g)) (r : Rel E Z n s β a w) {draw : Bool} {j : Nat} (hd : ∀ (i : Nat) (t : Tmp), (ops[i]?).bind (fun o : Oper => o.dst) = some t → t < n)
    (hfr : ∀ i, base + 64 * j ≤ i → i < base + 64 * j + 64 → s.ob i = .dead) {x : Rg} (he : (stepOp E draw ops.toList base s j).eval = some x) (hA : After E Z n s β a w (base + 64 * j) x next Q) : wpOp P ops Q j next a w := by
  unfold stepOp at he
  unfold wpOp
  rw [Array.getElem?_toList] at he
  cases ho : ops[j]? with
  | none =>
    rw [ho] at he
    simp only [Tr.eval, Option.some.injEq] at he
    simp only
    exact hA.1 s β a w he.symm r Stp.refl (fun i hi => absurd rfl hi) rfl
  | some o =>
    rw [ho] at he
    simp only at he ⊢
    have hdo : ∀ t, o.dst = some t → t < n := fun t ht => hd j t (by rw [ho]; exact ht)
    have skip : ∀ (s' : St), s'.ob = s.ob → s'.slot = s.slot → s'.next = s.next → x = .go { s' with slot := putO s'.slot o.dst (.tup []) } → next (a.put o.dst undef) w := by
      rintro ⟨sl, ob, nx⟩ h1 h2 h3 h4
      simp only at h1 h2 h3
      subst h1 h2 h3
      exact hA.1 _ β _ w h4 (r.skip hdo) Stp.refl (fun i hi => absurd rfl hi) rfl
    cases hg : o.guard with
    | none =>
      rw [hg] at he
      simp only at he
      have hw : Region.wanted o (yielded ops a.tmps) = true := by simp [Region.wanted, hg]
      rw [if_pos hw]
      exact .inl (stepWith_sound hT hC r hdo hfr he hA)
    | some p =>
      obtain ⟨i, want⟩ := p
      rw [hg] at he
      simp only at he
      cases hdst : (ops.toList[i]?).bind (·.dst) with
      | none => rw [hdst] at he; simp [Tr.eval] at he
      | some d =>
        rw [hdst] at he
        simp only at he
        rw [Array.getElem?_toList] at hdst
        obtain ⟨y1, y2⟩ := yielded_of (ops := ops) r.slots hdst (by rw [r.size]; exact hd i d hdst)
        split at he
        · rename_i b hb
          have hy := y1 b hb
          have yes : b = want → (stepWith E draw ops.toList base j o s).eval = some x → (if Region.wanted o (yielded ops a.tmps) = true then o.wp P a w next Q ∨ o.asks P a w ∧ LetsOut Q else next (a.put o.dst undef) w) := fun hbw he => by
            have hw : Region.wanted o (yielded ops a.tmps) = true := by simp [Region.wanted, hg, hy, hbw]
            rw [if_pos hw]
            exact .inl (stepWith_sound hT hC r hdo hfr he hA)
          have no : b = !want → x = .go { s with slot := putO s.slot o.dst (.tup []) } → (if Region.wanted o (yielded ops a.tmps) = true then o.wp P a w next Q ∨ o.asks P a w ∧ LetsOut Q else next (a.put o.dst undef) w) := fun hbw hx => by
            have hw : ¬ Region.wanted o (yielded ops a.tmps) = true := by
              rw [Region.wanted, hg]
              simp only [hy, hbw]
              cases want <;> simp
            rw [if_neg hw]
            exact skip s rfl rfl rfl hx
          cases want <;> cases b <;> simp only [Bool.not_true, Bool.not_false, Tr.eval, upd_eq hb] at he
          · exact yes rfl he
          · exact no rfl (by simpa using he.symm)
          · exact no rfl (by simpa using he.symm)
          · exact yes rfl he
        · rename_i hb
          have hy := y2 hb
          simp only [Tr.eval, Option.some.injEq] at he
          have hw : ¬ Region.wanted o (yielded ops a.tmps) = true := by simp [Region.wanted, hg, hy]
          rw [if_neg hw]
          exact skip s rfl rfl rfl he.symm
        · simp [Tr.eval] at he
end
end Go.AH
