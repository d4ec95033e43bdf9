/- A part of the proof: AHB, AHQt, AHC, AHF, AHH. -/
import Derived.Test.YtpngkkalomiggaaGreatDoorEC
import Derived.Orders
import Derived.Test.YtpngkkalomiggaaGreatDoorEA
import Derived.RangeFuncNested
import Derived.ScopeJumps
set_option linter.all false
namespace Go.AH
open Go Go.RowKit

/-- What was deferred ahead of the code; whether there may be marks of ranges before it. -/
structure Dq where
  marks : Bool
  ds : List Deferred
def Dq.ok (d : Dq) : Prop := ∀ x ∈ d.ds, ∀ D, x.target ≠ .collected D
/-- The marks of ranges over functions that the activation has left behind it. -/
def Marks (lo : Nat) (d0 : Dq) (h : Nat → Ob) (β : Nat → Loc) (w : World) (ds : List Deferred) : Prop :=
  d0.ok ∧ ∃ l : List Nat, ds = l.map (fun D => ({ target := .collected D, args := #[] } : Deferred)) ++ d0.ds ∧ (d0.marks = false → l = []) ∧ l.Nodup ∧ ∀ D ∈ l, lo ≤ D ∧ w.heap[D]? = some (.deferred (some [])) ∧ ∀ i, Mine h β i → (β i).b ≠ D
theorem Marks.nil {lo : Nat} {d0 : Dq} {h : Nat → Ob} {β : Nat → Loc} {w : World} (hd : d0.ok) : Marks lo d0 h β w d0.ds := ⟨hd, [], rfl, fun _ => rfl, List.nodup_nil, by simp⟩
theorem Dq.nil_ok {b : Bool} : (Dq.mk b []).ok := fun x hx => by cases hx
theorem Marks.stp {lo : Nat} {d0 : Dq} {h h' : Nat → Ob} {β β' : Nat → Loc} {w w' : World} {ds : List Deferred} (m : Marks lo d0 h β w ds) (s : Stp h β w h' β' w') : Marks lo d0 h' β' w' ds := by
  obtain ⟨hb, l, e, hm, hn, h⟩ := m
  refine ⟨hb, l, e, hm, hn, fun D hD => ?_⟩
  obtain ⟨h0, h1, h2⟩ := h D hD
  have hlt := (Array.getElem?_eq_some_iff.1 h1).1
  refine ⟨h0, (s.frame D hlt h2).trans h1, fun i mi he => ?_⟩
  rcases s.fresh i mi with ⟨k, mk, ek⟩ | ek
  · exact h2 k mk (ek.trans he)
  · omega
theorem Marks.heap {lo : Nat} {d0 : Dq} {h : Nat → Ob} {β : Nat → Loc} {w w' : World} {ds : List Deferred} (m : Marks lo d0 h β w ds) (hh : w'.heap = w.heap) : Marks lo d0 h β w' ds := by
  obtain ⟨hb, l, e, hm, hn, h⟩ := m
  exact ⟨hb, l, e, hm, hn, fun D hD => by rw [hh]; exact h D hD⟩
theorem Marks.re {lo : Nat} {d0 : Dq} {h : Nat → Ob} {β : Nat → Loc} {w : World} {ds : List Deferred} (m : Marks lo d0 h β w ds) {δ : Nat → Nat → Nat} {ids : List Nat} : Marks lo d0 (reH h δ ids) (reL β ids) w ds := by
  obtain ⟨hb, l, e, hm, hn, h⟩ := m
  refine ⟨hb, l, e, hm, hn, fun D hD => ⟨(h D hD).1, (h D hD).2.1, fun k mk he => ?_⟩⟩
  obtain ⟨i, _, mi, ei⟩ := reMine mk
  exact (h D hD).2.2 i mi (ei.symm.trans he)

/-- The abstract state stands for the walk's. -/
structure Rel (E : Env) (Z : Nat → Prop) (n lo : Nat) (d0 : Dq) (s : St) (β : Nat → Loc) (a : Act) (w : World) : Prop where
  cx : Cx E.ty E.glob Z s.ob β w
  slots : SRep E.ty w (Own Z s.ob β) (RefRep E.ty s.ob β) s.slot a
  size : a.tmps.size = n
  defers : Marks lo d0 s.ob β w a.defers

section
variable {E : Env} {P : Program} {Z : Nat → Prop} {n lo : Nat} {d0 : Dq} {s : St} {β : Nat → Loc} {w : World} {a : Act} {ops : Array Oper} {base : Nat} {next : Act → World → Prop} {Q : Exit → Act → World → Prop}

theorem put_getD (a : Act) {d : Option Tmp} {x : Value} (hd : ∀ t, d = some t → t < a.tmps.size) (t : Nat) : (a.put d x).tmps.getD t undef = if d = some t then x else a.tmps.getD t undef := by
  cases d with
  | none => simp [Act.put]
  | some d =>
    have := hd d rfl
    simp only [Act.put, Array.getD_eq_getD_getElem?]
    rw [Array.getElem?_setIfInBounds]
    by_cases hdt : d = t
    · subst hdt; simp [this]
    · simp [hdt]
theorem put_size (a : Act) (d : Option Tmp) (x : Value) : (a.put d x).tmps.size = a.tmps.size := by cases d <;> simp [Act.put]
theorem put_defers (a : Act) (d : Option Tmp) (x : Value) : (a.put d x).defers = a.defers := by cases d <;> rfl
theorem putO_get (s : Nat → V) (d : Option Nat) (v : V) (t : Nat) : putO s d v t = if d = some t then v else s t := by
  cases d with
  | none => simp [putO]
  | some d =>
    by_cases hdt : d = t
    · subst hdt; simp [putO, upd_same]
    · simp [putO, upd_other s v (Ne.symm hdt), hdt]
theorem SRep.put {T : TypeId → Ty} {O : Nat → Prop} {R : V → Value → Prop} {s : Nat → V} (hs : SRep T w O R s a) {d : Option Tmp} {v : V} {x : Value} (hd : ∀ t, d = some t → t < a.tmps.size) (hr : Rep T w O v R x) : SRep T w O R (putO s d v) (a.put d x) := by
  intro t
  rw [put_getD a hd, putO_get]
  by_cases h : d = some t
  · rw [if_pos h, if_pos h]; exact hr
  · rw [if_neg h, if_neg h]; exact hs t
theorem Rel.skip (r : Rel E Z n lo d0 s β a w) {d : Option Tmp} (hd : ∀ t, d = some t → t < n) : Rel E Z n lo d0 { s with slot := putO s.slot d (.tup []) } β (a.put d undef) w :=
  ⟨r.cx, r.slots.put (fun t ht => by rw [r.size]; exact hd t ht) ⟨#[], rfl, rfl⟩, by rw [put_size]; exact r.size, by rw [put_defers]; exact r.defers⟩

/-- What a region's operation comes to. -/
def After (E : Env) (Z : Nat → Prop) (n lo : Nat) (d0 : Dq) (s : St) (β : Nat → Loc) (a : Act) (w : World) (fr : Nat) (x : Rg) (next : Act → World → Prop) (Q : Exit → Act → World → Prop) : Prop :=
  (∀ s' β' a' w', x = .go s' → Rel E Z n lo d0 s' β' a' w' → Stp s.ob β w s'.ob β' w' → Touch s.ob s'.ob fr → s'.next = s.next → next a' w') ∧
  (∀ v s' β' w' y, x = .pan v s' → v.noRef = true → Rel E Z n lo d0 s' β' a w' → Stp s.ob β w s'.ob β' w' → Rep E.ty w' (Own Z s'.ob β') v noR y → Touch s.ob s'.ob fr → s'.next = s.next → Q (.panic [{ v := y, recovered := false }]) a w')

theorem stepWith_sound (hT : TyOk P E.ty) (hC : ∀ g, Holds E.ty E.glob P g (E.C g)) (r : Rel E Z n lo d0 s β a w) {draw : Bool} {hn : Hint} {ol : List Oper} {j : Nat} {o : Oper} (hd : ∀ t, o.dst = some t → t < n)
    (hfr : ∀ i, base + 64 * j ≤ i → i < base + 64 * j + 64 → s.ob i = .dead) {x : Rg} (he : (stepWith E draw hn ol base j o s).eval = some x) (hA : After E Z n lo d0 s β a w (base + 64 * j) x next Q) : o.wp P a w next Q := by
  unfold stepWith at he
  rw [evOpF_eq] at he
  obtain ⟨rs, h1, h2⟩ := eval_bind he
  have hsees : Sees (viewOf draw hn ol base j o s.ob) s.ob := by
    intro i
    unfold viewOf
    cases draw with
    | false => exact .inr rfl
    | true =>
      simp only
      cases blind o with
      | true => exact .inl rfl
      | false =>
        simp only [maskOb]
        split
        · exact .inr rfl
        · exact .inl rfl
  have hslots : SRep E.ty w (Own Z s.ob β) (RefRep E.ty s.ob β) (slotOf draw ol o s.slot) a := by
    intro t
    unfold slotOf
    cases draw with
    | false => exact r.slots t
    | true =>
      simp only [maskSlot]
      split
      · exact r.slots t
      · exact trivial
  refine op_sound (view := viewOf draw hn ol base j o s.ob) (s := slotOf draw ol o s.slot) ⟨hT, r.cx, hsees, hslots⟩ hfr hC h1 ⟨fun v u y w' β' hr hdone => ?_, fun v u y w' β' hr hnr hdone => ?_⟩
  · subst hr
    simp only at h2
    split at h2
    · simp only [Tr.eval, Option.some.injEq] at h2
      refine hA.1 _ β' (a.put o.dst y) w' h2.symm ⟨hdone.cx, ?_, by rw [put_size]; exact r.size, by rw [put_defers]; exact r.defers.stp hdone.st⟩ hdone.st hdone.touch rfl
      refine SRep.put (fun t => ?_) (fun t ht => by rw [r.size]; exact hd t ht) hdone.rep
      exact hdone.st.rep r.cx (r.slots t)
    · simp [Tr.eval] at h2
  · subst hr
    simp only at h2
    cases draw with
    | true => simp [Tr.eval] at h2
    | false =>
      simp only [Tr.eval, Option.some.injEq] at h2
      refine hA.2 v _ β' w' y h2.symm hnr ⟨hdone.cx, fun t => hdone.st.rep r.cx (r.slots t), r.size, r.defers.stp hdone.st⟩ hdone.st (noRef_noR hdone.rep hnr) hdone.touch rfl
theorem yielded_of {T : TypeId → Ty} {O : Nat → Prop} {R : V → Value → Prop} {sl : Nat → V} (hs : SRep T w O R sl a) {i d : Nat} (hd : (ops[i]?).bind (fun o : Oper => o.dst) = some d) (hsz : d < a.tmps.size) :
    (∀ b, sl d = .bool b → yielded ops a.tmps i = some b) ∧ (sl d = .tup [] → yielded ops a.tmps i = none) := by
  have h1 : ((ops[i]?).bind (·.dst)).bind (a.tmps[·]?) = some (a.tmps.getD d undef) := by
    rw [hd]
    simp [Array.getD_eq_getD_getElem?, hsz]
  refine ⟨fun b hb => ?_, fun hb => ?_⟩
  · have := hs d
    rw [hb] at this
    unfold yielded
    rw [h1, show a.tmps.getD d undef = .bool b from this]
  · have := hs d
    rw [hb] at this
    obtain ⟨arr, h2, h3⟩ := this
    unfold yielded
    rw [h1, h2]
theorem stepOp_sound (hT : TyOk P E.ty) (hC : ∀ g, Holds E.ty E.glob P g (E.C g)) (r : Rel E Z n lo d0 s β a w) {draw : Bool} {hn : Hint} {j : Nat} (hd : ∀ (i : Nat) (t : Tmp), (ops[i]?).bind (fun o : Oper => o.dst) = some t → t < n)
    (hfr : ∀ i, base + 64 * j ≤ i → i < base + 64 * j + 64 → s.ob i = .dead) {x : Rg} (he : (stepOp E draw hn ops.toList base s j).eval = some x) (hA : After E Z n lo d0 s β a w (base + 64 * j) x next Q) : wpOp P ops Q j next a w := by
  unfold stepOp at he
  unfold wpOp
  rw [Array.getElem?_toList] at he
  cases ho : ops[j]? with
  | none =>
    rw [ho] at he
    simp only [Tr.eval, Option.some.injEq] at he
    simp only
    exact hA.1 s β a w he.symm r Stp.refl (fun i hi => absurd rfl hi) rfl
  | some o =>
    rw [ho] at he
    simp only at he ⊢
    have hdo : ∀ t, o.dst = some t → t < n := fun t ht => hd j t (by rw [ho]; exact ht)
    have skip : ∀ (s' : St), s'.ob = s.ob → s'.slot = s.slot → s'.next = s.next → x = .go { s' with slot := putO s'.slot o.dst (.tup []) } → next (a.put o.dst undef) w := by
      rintro ⟨sl, ob, nx⟩ h1 h2 h3 h4
      simp only at h1 h2 h3
      subst h1 h2 h3
      exact hA.1 _ β _ w h4 (r.skip hdo) Stp.refl (fun i hi => absurd rfl hi) rfl
    cases hg : o.guard with
    | none =>
      rw [hg] at he
      simp only at he
      have hw : Region.wanted o (yielded ops a.tmps) = true := by simp [Region.wanted, hg]
      rw [if_pos hw]
      exact .inl (stepWith_sound hT hC r hdo hfr he hA)
    | some p =>
      obtain ⟨i, want⟩ := p
      rw [hg] at he
      simp only at he
      cases hdst : (ops.toList[i]?).bind (·.dst) with
      | none => rw [hdst] at he; simp [Tr.eval] at he
      | some d =>
        rw [hdst] at he
        simp only at he
        rw [Array.getElem?_toList] at hdst
        obtain ⟨y1, y2⟩ := yielded_of (ops := ops) r.slots hdst (by rw [r.size]; exact hd i d hdst)
        split at he
        · rename_i b hb
          have hy := y1 b hb
          have yes : b = want → (stepWith E draw hn ops.toList base j o s).eval = some x → (if Region.wanted o (yielded ops a.tmps) = true then o.wp P a w next Q ∨ o.asks P a w ∧ LetsOut Q else next (a.put o.dst undef) w) := fun hbw he => by
            have hw : Region.wanted o (yielded ops a.tmps) = true := by simp [Region.wanted, hg, hy, hbw]
            rw [if_pos hw]
            exact .inl (stepWith_sound hT hC r hdo hfr he hA)
          have no : b = !want → x = .go { s with slot := putO s.slot o.dst (.tup []) } → (if Region.wanted o (yielded ops a.tmps) = true then o.wp P a w next Q ∨ o.asks P a w ∧ LetsOut Q else next (a.put o.dst undef) w) := fun hbw hx => by
            have hw : ¬ Region.wanted o (yielded ops a.tmps) = true := by
              rw [Region.wanted, hg]
              simp only [hy, hbw]
              cases want <;> simp
            rw [if_neg hw]
            exact skip s rfl rfl rfl hx
          cases want <;> cases b <;> simp only [Bool.not_true, Bool.not_false, Tr.eval, upd_eq hb] at he
          · exact yes rfl he
          · exact no rfl (by simpa using he.symm)
          · exact no rfl (by simpa using he.symm)
          · exact yes rfl he
        · rename_i hb
          have hy := y2 hb
          simp only [Tr.eval, Option.some.injEq] at he
          have hw : ¬ Region.wanted o (yielded ops a.tmps) = true := by simp [Region.wanted, hg, hy]
          rw [if_neg hw]
          exact skip s rfl rfl rfl he.symm
        · simp [Tr.eval] at he
end
end Go.AH

namespace Go.AH
open Go Go.RowKit

section
variable {T : TypeId → Ty} {G : Nat → V} {Z O : Nat → Prop} {R : V → Value → Prop} {h : Nat → Ob} {β : Nat → Loc} {w w' w'' : World} {B B' : Nat}
theorem Quiet.putObj {l : Nat} {r : Loop} (hl : w.heap[l]? = some (.loop r)) (hB : B ≤ l) (o : Obj) : Quiet B w (w.putObj l o) :=
  ⟨rfl, rfl, rfl, by simp, fun b _ => by
    by_cases hb : b = l
    · subst hb
      exact .inr ⟨hB, .inl ⟨_, hl⟩⟩
    · exact .inl (World.putObj_heap_other hb)⟩
theorem Quiet.putD {l : Nat} {d : Option (List Deferred)} (hl : w.heap[l]? = some (.deferred d)) (hB : B ≤ l) (o : Obj) : Quiet B w (w.putObj l o) :=
  ⟨rfl, rfl, rfl, by simp, fun b _ => by
    by_cases hb : b = l
    · subst hb
      exact .inr ⟨hB, .inr ⟨_, hl⟩⟩
    · exact .inl (World.putObj_heap_other hb)⟩
theorem Marks.lt {ds : List Deferred} {d0 : Dq} {lo : Nat} (m : Marks lo d0 h β w ds) : ∀ D, ({ target := .collected D, args := #[] } : Deferred) ∈ ds → D < w.heap.size := by
  intro D hD
  obtain ⟨hb, l, rfl, _, _, h⟩ := m
  rcases List.mem_append.1 hD with hD | hD
  · obtain ⟨D', hD', e⟩ := List.mem_map.1 hD
    injection e with e1 _
    injection e1 with e2
    subst e2
    exact (Array.getElem?_eq_some_iff.1 (h _ hD').2.1).1
  · exact absurd rfl (hb _ hD D)
theorem Marks.quiet {ds : List Deferred} {d0 : Dq} {lo : Nat} (m : Marks lo d0 h β w ds) (q : Quiet B w w') (hlt : ∀ D, ({ target := .collected D, args := #[] } : Deferred) ∈ ds → D < B) : Marks lo d0 h β w' ds := by
  obtain ⟨hb, l, rfl, hm, hn, h⟩ := m
  refine ⟨hb, l, rfl, hm, hn, fun D hD => ⟨(h D hD).1, ?_, (h D hD).2.2⟩⟩
  rcases q.same D (Array.getElem?_eq_some_iff.1 (h D hD).2.1).1 with h1 | ⟨h1, _⟩
  · exact h1.trans (h D hD).2.1
  · have := hlt D (List.mem_append.2 (.inl (List.mem_map.2 ⟨D, hD, rfl⟩)))
    omega
theorem Rel.quiet {E : Env} {n lo : Nat} {d0 : Dq} {s : St} {a : Act} (r : Rel E Z n lo d0 s β a w) (q : Quiet B w w') (hlt : ∀ D, ({ target := .collected D, args := #[] } : Deferred) ∈ a.defers → D < B) : Rel E Z n lo d0 s β a w' :=
  ⟨r.cx.quiet q, fun t => Rep.quiet q _ _ _ (r.slots t), r.size, r.defers.quiet q hlt⟩

/-- What is to be shown of the heap all along. -/
structure KOk (m B : Nat) (K : (Nat → Ob) → (Nat → Loc) → World → Prop) : Prop where
  lo : ∀ {h β w}, K h β w → B ≤ w.heap.size
  stp : ∀ {h β w h' β' w'}, K h β w → Stp h β w h' β' w' → K h' β' w'
  quiet : ∀ {h β w w'}, K h β w → Quiet B w w' → K h β w'
  re : ∀ {h β w δ ids}, K h β w → (∀ i, i < m → ids[i]? = some i) → (∀ i g, i < m → δ i g = 0 → g = 0) → K (reH h δ ids) (reL β ids) w
theorem Wk.quiet {m : Nat} {h0 : Nat → Ob} {β0 : Nat → Loc} {w0 : World} (k : Wk m h0 β0 w0 h β w) (q : Quiet w0.heap.size w w') : Wk m h0 β0 w0 h β w' :=
  ⟨q.os.trans k.os, q.tape.trans k.tape, q.output.trans k.output, Nat.le_trans k.size q.size, fun b hb hn => by
    rcases q.same b (Nat.lt_of_lt_of_le hb k.size) with h | ⟨h, _⟩
    · exact h.trans (k.frame b hb hn)
    · omega, k.fresh, k.hd⟩
theorem Wk.kok {m : Nat} {h0 : Nat → Ob} {β0 : Nat → Loc} {w0 : World} (hn : New h0) : KOk m w0.heap.size (fun h β w => Wk m h0 β0 w0 h β w) := {
  lo := fun k => k.size
  stp := fun k s => k.trans s.wk
  quiet := fun k q => k.quiet q
  re := fun k h1 h2 => k.re hn h1 h2 }
end
end Go.AH

namespace Go.AH
open Go Go.RowKit

section
variable {E : Env} {P : Program} {Z : Nat → Prop} {n lo : Nat} {d0 : Dq} {ops : Array Oper} {base : Nat} {Q : Exit → Act → World → Prop}

def inR (base j i : Nat) : Prop := base + 64 * j ≤ i ∧ i < base + 64 * j + 64
/-- What a list of operations comes to. -/
def AfterL (E : Env) (Z : Nat → Prop) (n lo : Nat) (d0 : Dq) (base : Nat) (s : St) (β : Nat → Loc) (w : World) (l : List Nat) (x : Rg) (Q : Exit → Act → World → Prop) : Prop :=
  (∀ s' β' a' w', x = .go s' → Rel E Z n lo d0 s' β' a' w' → Stp s.ob β w s'.ob β' w' → (∀ i, s.ob i = .dead → (∀ j ∈ l, ¬ inR base j i) → s'.ob i = .dead) → s'.next = s.next → Q .normal a' w') ∧
  (∀ v s' β' a' w' y, x = .pan v s' → v.noRef = true → Rel E Z n lo d0 s' β' a' w' → Stp s.ob β w s'.ob β' w' → Rep E.ty w' (Own Z s'.ob β') v noR y → (∀ i, s.ob i = .dead → (∀ j ∈ l, ¬ inR base j i) → s'.ob i = .dead) → s'.next = s.next → Q (.panic [{ v := y, recovered := false }]) a' w')
theorem touch_dead {h h' : Nat → Ob} {j i : Nat} (ht : Touch h h' (base + 64 * j)) (hd : h i = .dead) (hi : ¬ inR base j i) : h' i = .dead := by
  by_cases he : h' i = h i
  · rw [he]; exact hd
  · rcases ht i he with h1 | h1
    · rw [hd] at h1; cases h1
    · exact absurd h1 hi
theorem inR_disj {j k i : Nat} (h1 : inR base j i) (h2 : inR base k i) : j = k := by unfold inR at h1 h2; omega

theorem ops_sound (hT : TyOk P E.ty) (hC : ∀ g, Holds E.ty E.glob P g (E.C g)) {draw : Bool} {hn : Hint} (hd : ∀ (i : Nat) (t : Tmp), (ops[i]?).bind (fun o : Oper => o.dst) = some t → t < n) :
    ∀ (l : List Nat) (s : St) (β : Nat → Loc) (a : Act) (w : World) (x : Rg), Rel E Z n lo d0 s β a w → l.Nodup → (∀ j ∈ l, ∀ i, inR base j i → s.ob i = .dead) → (stepOps E draw hn ops.toList base l s).eval = some x → AfterL E Z n lo d0 base s β w l x Q → wpOps P ops Q l a w
  | [], s, β, a, w, x, r, _, _, he, hA => by
    simp only [stepOps, Tr.eval, Option.some.injEq] at he
    exact hA.1 s β a w he.symm r Stp.refl (fun i hi _ => hi) rfl
  | j :: l, s, β, a, w, x, r, hnd, hdead, he, hA => by
    rw [stepOps] at he
    obtain ⟨x1, h1, h2⟩ := eval_bind he
    rw [wpOps_cons]
    rw [List.nodup_cons] at hnd
    refine stepOp_sound hT hC r hd (fun i h3 h4 => hdead j (by simp) i ⟨h3, h4⟩) h1 ⟨fun s1 β1 a1 w1 hx r1 st1 t1 n1 => ?_, fun v s1 β1 w1 y hx hnr r1 st1 hy t1 n1 => ?_⟩
    · subst hx
      simp only at h2
      refine ops_sound hT hC hd l s1 β1 a1 w1 x r1 hnd.2 (fun k hk i hi => touch_dead t1 (hdead k (by simp [hk]) i hi) (fun hj => hnd.1 (by rw [inR_disj hj hi]; exact hk))) h2 ⟨fun s' β' a' w' hx r' st' d' n' => ?_, fun v s' β' a' w' y hx hnr r' st' hy d' n' => ?_⟩
      · exact hA.1 s' β' a' w' hx r' (st1.trans st') (fun i hi hj => d' i (touch_dead t1 hi (hj j (by simp))) (fun k hk => hj k (by simp [hk]))) (n'.trans n1)
      · exact hA.2 v s' β' a' w' y hx hnr r' (st1.trans st') hy (fun i hi hj => d' i (touch_dead t1 hi (hj j (by simp))) (fun k hk => hj k (by simp [hk]))) (n'.trans n1)
    · subst hx
      simp only [Tr.eval, Option.some.injEq] at h2
      exact hA.2 v s1 β1 a w1 y h2.symm hnr r1 st1 hy (fun i hi hj => touch_dead t1 hi (hj j (by simp))) n1

/- Drawn orders. -/
theorem predsGo_all (ol : List Oper) (Pr : Nat → Prop) (hstep : ∀ x o, Pr x → ol[x]? = some o → ∀ e ∈ o.after.toList, Region.binds .any e = true → Pr e.on) :
    ∀ (f : Nat) (seen : List Nat) (k : Nat), (∀ x ∈ seen, Pr x) → ∀ x ∈ predsGo ol f seen k, Pr x
  | 0, seen, k, h, x, hx => h x hx
  | f + 1, seen, k, h, x, hx => by
    unfold predsGo at hx
    split at hx
    · exact h x hx
    · rename_i i hi
      refine predsGo_all ol Pr hstep f _ _ (fun y hy => ?_) x hx
      have mem : ∀ (l seen : List Nat) (y : Nat), y ∈ addNew seen l → y ∈ seen ∨ y ∈ l := by
        intro l
        induction l with
        | nil => intro seen y hy; exact .inl hy
        | cons a l ih =>
          intro seen y hy
          unfold addNew at hy
          split at hy
          · rcases ih seen y hy with h | h
            · exact .inl h
            · exact .inr (by simp [h])
          · rcases ih _ y hy with h | h
            · rcases List.mem_append.1 h with h | h
              · exact .inl h
              · exact .inr (by simp at h; simp [h])
            · exact .inr (by simp [h])
      rcases mem _ _ y hy with h1 | h1
      · exact h y h1
      · cases ho : ol[i]? with
        | none => rw [ho] at h1; simp at h1
        | some o =>
          rw [ho] at h1
          simp only [Option.map_some, Option.getD_some, List.mem_map, List.mem_filter] at h1
          obtain ⟨e, ⟨he, hb⟩, rfl⟩ := h1
          exact hstep i o (h i (List.mem_of_getElem? hi)) ho e he hb
theorem preds_all (ol : List Oper) (Pr : Nat → Prop) (hstep : ∀ x o, Pr x → ol[x]? = some o → ∀ e ∈ o.after.toList, Region.binds .any e = true → Pr e.on) {i : Nat} (hi : Pr i) : ∀ x ∈ preds ol i, Pr x :=
  predsGo_all ol Pr hstep _ [i] 0 (by simpa using hi)

theorem front {hn : Hint} {base : Nat} {ol : List Oper} {i : Nat} {oi : Oper} (hi : ol[i]? = some oi) (B : List Nat) {x : Rg} :
    ∀ (A : List Nat) (s : St), (∀ y ∈ A, y ≠ i ∧ y ∉ preds ol i ∧ i ∉ preds ol y ∧ ∃ oy, ol[y]? = some oy ∧ indep E.mode hn ol y i oy oi = true) → (stepOps E true hn ol base (A ++ i :: B) s).eval = some x → (stepOps E true hn ol base (i :: (A ++ B)) s).eval = some x
  | [], s, _, h => h
  | y :: A, s, hA, h => by
    obtain ⟨h1, h2, h3, oy, h4, h5⟩ := hA y (by simp)
    rw [List.cons_append, stepOps] at h
    obtain ⟨g, e1, e2⟩ := eval_bind h
    have key : (stepOps E true hn ol base (y :: i :: (A ++ B)) s).eval = some x := by
      rw [stepOps, bind_eval e1]
      cases g with
      | go s1 => exact front hi B A s1 (fun z hz => hA z (by simp [hz])) e2
      | pan v s1 => exact e2
    exact step_comm hi h4 h1 h2 h3 h5 key

theorem rankedBy_spec {m : Region.Mode} {ol : List Oper} {r : List Nat} (h : rankedBy m ol r = true) : ∀ (j : Nat) (o : Oper), ol[j]? = some o → ∀ e ∈ o.after.toList, Region.binds m e = true → r.getD e.on 0 < r.getD j 0 ∧ e.on < ol.length := by
  intro j o ho e he hb
  unfold rankedBy at h
  rw [List.all_eq_true] at h
  have h1 := h j (by simpa using (List.getElem?_eq_some_iff.1 ho).1)
  rw [ho] at h1
  simp only [Option.map_some, Option.getD_some, List.all_eq_true] at h1
  have h2 := h1 e he
  rw [hb] at h2
  simp only [Bool.not_true, Bool.false_or, Bool.and_eq_true] at h2
  exact ⟨Nat.le_of_ble_eq_true h2.1, Nat.le_of_ble_eq_true h2.2⟩
theorem ranked_spec {m : Region.Mode} {ol : List Oper} (h : ranked m ol = true) : ∃ ρ : Nat → Nat, ∀ (j : Nat) (o : Oper), ol[j]? = some o → ∀ e ∈ o.after.toList, Region.binds m e = true → ρ e.on < ρ j ∧ e.on < ol.length := by
  unfold ranked at h
  rw [Bool.or_eq_true] at h
  rcases h with h | h
  · exact ⟨fun j => (rankIter m ol 8 []).getD j 0, rankedBy_spec h⟩
  · exact ⟨fun j => (rankIter m ol 24 []).getD j 0, rankedBy_spec h⟩
theorem binds_any {m : Region.Mode} {e : Edge} (h : Region.binds .any e = true) : Region.binds m e = true := by
  unfold Region.binds at *
  split at h <;> simp_all
  all_goals first | (exact absurd h (by decide)) | rfl
theorem order_spec {ol : List Oper} (h : orderOk ol = true) (md : Region.Mode) : (∀ (j : Nat) (o : Oper), ol[j]? = some o → ∀ e ∈ o.after.toList, Region.binds .any e = true → e.on < j) ∧
    ∃ ρ : Nat → Nat, ∀ (j : Nat) (o : Oper), ol[j]? = some o → ∀ e ∈ o.after.toList, Region.binds md e = true → ρ e.on < ρ j ∧ e.on < ol.length := by
  unfold orderOk at h
  rw [Bool.or_eq_true, Bool.and_eq_true, Bool.and_eq_true] at h
  rcases h with h | ⟨⟨h1, h2⟩, h3⟩
  · have hb : ∀ (j : Nat) (o : Oper), ol[j]? = some o → ∀ e ∈ o.after.toList, e.on < j := by
      intro j o ho e he
      unfold backward at h
      rw [List.all_eq_true] at h
      have h1 := h j (by simpa using (List.getElem?_eq_some_iff.1 ho).1)
      rw [ho] at h1
      simp only [Option.map_some, Option.getD_some] at h1
      rw [← Array.all_toList, List.all_eq_true] at h1
      exact Nat.le_of_ble_eq_true (h1 e he)
    exact ⟨fun j o ho e he _ => hb j o ho e he, id, fun j o ho e he _ => ⟨hb j o ho e he, Nat.lt_trans (hb j o ho e he) (List.getElem?_eq_some_iff.1 ho).1⟩⟩
  · refine ⟨fun j o ho e he hb => ?_, ?_⟩
    · unfold backAny at h1
      rw [List.all_eq_true] at h1
      have h4 := h1 j (by simpa using (List.getElem?_eq_some_iff.1 ho).1)
      rw [ho] at h4
      simp only [Option.map_some, Option.getD_some, List.all_eq_true] at h4
      have h5 := h4 e he
      rw [hb] at h5
      simp only [Bool.not_true, Bool.false_or] at h5
      exact Nat.le_of_ble_eq_true h5
    · cases md with
      | text => exact ranked_spec h2
      | gc => exact ranked_spec h3
      | any =>
        obtain ⟨ρ, hρ⟩ := ranked_spec h2
        exact ⟨ρ, fun j o ho e he hb => hρ j o ho e he (binds_any hb)⟩
theorem min_rank (ρ : Nat → Nat) : ∀ (l : List Nat), l ≠ [] → ∃ i ∈ l, ∀ k ∈ l, ρ i ≤ ρ k
  | [], h => absurd rfl h
  | [a], _ => ⟨a, by simp, by simp⟩
  | a :: b :: l, _ => by
    obtain ⟨i, hi, h⟩ := min_rank ρ (b :: l) (by simp)
    by_cases hc : ρ a ≤ ρ i
    · exact ⟨a, by simp, fun k hk => by
        rcases List.mem_cons.1 hk with rfl | hk
        · exact Nat.le_refl _
        · exact Nat.le_trans hc (h k hk)⟩
    · exact ⟨i, List.mem_cons_of_mem _ hi, fun k hk => by
        rcases List.mem_cons.1 hk with rfl | hk
        · omega
        · exact h k hk⟩
theorem any_sound (hT : TyOk P E.ty) (hC : ∀ g, Holds E.ty E.glob P g (E.C g)) (hd : ∀ (i : Nat) (t : Tmp), (ops[i]?).bind (fun o : Oper => o.dst) = some t → t < n) {hn : Hint} (hok : regionOk E.mode hn ops.toList = true) (md : Region.Mode) :
    ∀ (f : Nat) (listed : Array Bool) (s : St) (β : Nat → Loc) (a : Act) (w : World) (x : Rg), Rel E Z n lo d0 s β a w → listed.size = ops.size →
      (∀ i o, ops[i]? = some o → listed.getD i true = true → ∀ e ∈ o.after.toList, Region.binds .any e = true → listed.getD e.on false = true) →
      ((List.range ops.size).filter fun i => !listed.getD i true).length ≤ f →
      (∀ j ∈ (List.range ops.size).filter (fun i => !listed.getD i true), ∀ i, inR base j i → s.ob i = .dead) →
      (stepOps E true hn ops.toList base ((List.range ops.size).filter fun i => !listed.getD i true) s).eval = some x →
      (∀ s' β' a' w', x = .go s' → Rel E Z n lo d0 s' β' a' w' → Stp s.ob β w s'.ob β' w' → (∀ i, s.ob i = .dead → (∀ j, j < ops.size → ¬ inR base j i) → s'.ob i = .dead) → s'.next = s.next → Q .normal a' w') →
      wpAny P md ops Q f listed a w := by
  unfold regionOk at hok
  rw [Bool.and_eq_true] at hok
  obtain ⟨hback, hpairs⟩ := hok
  obtain ⟨hback2, ρ, hρ2⟩ := order_spec hback md
  have hback' : ∀ (j : Nat) (o : Oper), ops[j]? = some o → ∀ e ∈ o.after.toList, Region.binds .any e = true → e.on < j := fun j o ho => hback2 j o (by rw [Array.getElem?_toList]; exact ho)
  have hρ : ∀ (j : Nat) (o : Oper), ops[j]? = some o → ∀ e ∈ o.after.toList, Region.binds md e = true → ρ e.on < ρ j ∧ e.on < ops.size := fun j o ho e he hb => by
    have := hρ2 j o (by rw [Array.getElem?_toList]; exact ho) e he hb
    simpa using this
  have hpairs' : ∀ (i j : Nat) (oi oj : Oper), i < j → ops[i]? = some oi → ops[j]? = some oj → i ∈ preds ops.toList j ∨ indep E.mode hn ops.toList i j oi oj = true := by
    intro i j oi oj hij hi hj
    unfold allPairs at hpairs
    rw [List.all_eq_true] at hpairs
    have hjl := (Array.getElem?_eq_some_iff.1 hj).1
    have h1 := hpairs j (by simpa using hjl)
    rw [List.all_eq_true] at h1
    have h2 := h1 i (by simpa using hij)
    simp only [Array.getElem?_toList, hi, hj] at h2
    rw [Bool.or_eq_true] at h2
    rcases h2 with h2 | h2
    · exact .inl (by simpa using h2)
    · exact .inr h2
  have hself : ∀ (y : Nat), ∀ x ∈ preds ops.toList y, x ≤ y := fun y => preds_all ops.toList (fun x => x ≤ y) (fun x o hx ho e he hb => by
    rw [Array.getElem?_toList] at ho
    have := hback' x o ho e he hb
    omega) (Nat.le_refl _)
  intro f
  induction f with
  | zero =>
    intro listed s β a w x r _ _ hf _ he hQ
    have hnil := List.eq_nil_of_length_eq_zero (Nat.le_zero.1 hf)
    refine ⟨?_, ?_⟩
    · unfold Region.ready
      rw [List.filter_eq_nil_iff] at hnil ⊢
      intro i hi hc
      rw [Bool.and_eq_true] at hc
      exact hnil i hi hc.1
    · rw [hnil] at he
      simp only [stepOps, Tr.eval, Option.some.injEq] at he
      exact hQ s β a w he.symm r Stp.refl (fun i hi _ => hi) rfl
  | succ f ih =>
    intro listed s β a w x r hsz hcl hf hdead he hQ
    refine ⟨fun hready => ?_, fun i hi => ?_⟩
    · -- nothing is ready: nothing is left
      cases hR : (List.range ops.size).filter (fun i => !listed.getD i true) with
      | nil =>
        rw [hR] at he
        simp only [stepOps, Tr.eval, Option.some.injEq] at he
        exact hQ s β a w he.symm r Stp.refl (fun i hi _ => hi) rfl
      | cons i0 R0 =>
        exfalso
        obtain ⟨i, hi, hmin⟩ := min_rank ρ ((List.range ops.size).filter (fun i => !listed.getD i true)) (by rw [hR]; simp)
        rw [List.mem_filter] at hi
        have hil : i < ops.size := by simpa using hi.1
        have hnot : i ∉ Region.ready md ops listed := by rw [hready]; simp
        refine hnot ?_
        unfold Region.ready
        rw [List.mem_filter]
        refine ⟨hi.1, ?_⟩
        rw [Bool.and_eq_true]
        refine ⟨hi.2, ?_⟩
        rw [Array.getElem?_eq_getElem hil]
        simp only [Option.map_some, Option.getD_some]
        rw [← Array.all_toList, List.all_eq_true]
        intro e he2
        cases hb : Region.binds md e with
        | false => simp
        | true =>
          obtain ⟨g1, g2⟩ := hρ i _ (Array.getElem?_eq_getElem hil) e he2 hb
          have h1 : listed.getD e.on true = true := by
            cases hq : listed.getD e.on true with
            | true => rfl
            | false =>
              have := hmin e.on (List.mem_filter.2 ⟨by simpa using g2, by rw [hq]; rfl⟩)
              omega
          have : listed.getD e.on false = true := by
            have hl : e.on < listed.size := by omega
            simp [Array.getD_eq_getD_getElem?, hl] at h1 ⊢
            exact h1
          rw [this]
          simp
    · unfold Region.ready at hi
      rw [List.mem_filter, Bool.and_eq_true] at hi
      obtain ⟨hir, hiu, hia⟩ := hi
      have hil : i < ops.size := by simpa using hir
      obtain ⟨oi, hoi⟩ : ∃ oi, ops[i]? = some oi := ⟨_, Array.getElem?_eq_getElem hil⟩
      rw [hoi] at hia
      simp only [Option.map_some, Option.getD_some] at hia
      rw [← Array.all_toList, List.all_eq_true] at hia
      have hany : ∀ e ∈ oi.after.toList, Region.binds .any e = true → listed.getD e.on false = true := by
        intro e he2 hb
        have h1 := hia e he2
        rw [Bool.or_eq_true] at h1
        rcases h1 with h1 | h1
        · have : Region.binds md e = true := by
            unfold Region.binds at hb ⊢
            split at hb <;> simp_all
            all_goals first | (exact absurd hb (by decide)) | rfl
          rw [this] at h1
          cases h1
        · exact h1
      obtain ⟨A, B, hAB⟩ := List.append_of_mem (List.mem_filter.2 ⟨hir, hiu⟩ : i ∈ (List.range ops.size).filter (fun i => !listed.getD i true))
      have hpw : ((List.range ops.size).filter (fun i => !listed.getD i true)).Pairwise (· < ·) := List.pairwise_lt_range.filter _
      have hndR : ((List.range ops.size).filter (fun i => !listed.getD i true)).Nodup := List.nodup_range.filter _
      have hlistedOf : ∀ k, k < ops.size → listed.getD k false = listed.getD k true := fun k hk => by
        have hl : k < listed.size := by omega
        simp [Array.getD_eq_getD_getElem?, hl]
      have hmem : ∀ y ∈ A, y < i ∧ y < ops.size ∧ listed.getD y true = false := by
        intro y hy
        have hym : y ∈ (List.range ops.size).filter (fun i => !listed.getD i true) := by rw [hAB]; simp [hy]
        rw [List.mem_filter] at hym
        rw [hAB] at hpw
        refine ⟨(List.pairwise_append.1 hpw).2.2 y hy i (by simp), by simpa using hym.1, by simpa using hym.2⟩
      have hpi : ∀ y, y ∈ preds ops.toList i → y = i ∨ listed.getD y false = true := by
        refine preds_all ops.toList (fun y => y = i ∨ listed.getD y false = true) (fun y o hy ho e he2 hb => ?_) (.inl rfl)
        rw [Array.getElem?_toList] at ho
        rcases hy with rfl | hy
        · rw [hoi] at ho
          simp at ho
          subst ho
          exact .inr (hany e he2 hb)
        · have hyl := (Array.getElem?_eq_some_iff.1 ho).1
          exact .inr (hcl y o ho (by rw [← hlistedOf y hyl]; exact hy) e he2 hb)
      have hfront := front (E := E) (base := base) (ol := ops.toList) (i := i) (oi := oi) (by rw [Array.getElem?_toList]; exact hoi) B A s (x := x) (fun y hy => by
        obtain ⟨h1, h2, h3⟩ := hmem y hy
        have hny : y ∉ preds ops.toList i := fun hc => by
          rcases hpi y hc with h4 | h4
          · omega
          · rw [hlistedOf y h2, h3] at h4; cases h4
        obtain ⟨oy, hoy⟩ : ∃ oy, ops[y]? = some oy := ⟨_, Array.getElem?_eq_getElem h2⟩
        refine ⟨by omega, hny, fun hc => by have := hself y i hc; omega, oy, by rw [Array.getElem?_toList]; exact hoy, ?_⟩
        exact (hpairs' y i oy oi h1 hoy hoi).resolve_left hny) (by rw [← hAB]; exact he)
      have hset : ∀ k, (listed.setIfInBounds i true).getD k true = (if k = i then true else listed.getD k true) := by
        intro k
        simp only [Array.getD_eq_getD_getElem?, Array.getElem?_setIfInBounds]
        by_cases hk : k = i
        · subst hk; simp [hsz, hil]
        · rw [if_neg (Ne.symm hk), if_neg hk]
      have hset2 : ∀ k, listed.getD k false = true → (listed.setIfInBounds i true).getD k false = true := by
        intro k hk
        simp only [Array.getD_eq_getD_getElem?, Array.getElem?_setIfInBounds] at hk ⊢
        by_cases hk2 : i = k
        · subst hk2; simp [hsz, hil]
        · rw [if_neg hk2]; exact hk
      have hR' : (List.range ops.size).filter (fun k => !(listed.setIfInBounds i true).getD k true) = A ++ B := by
        have h1 : (List.range ops.size).filter (fun k => !(listed.setIfInBounds i true).getD k true) = ((List.range ops.size).filter (fun k => !listed.getD k true)).filter (fun k => decide (k ≠ i)) := by
          rw [List.filter_filter]
          apply List.filter_congr
          intro k _
          rw [hset]
          by_cases hk : k = i <;> simp [hk]
        rw [h1, hAB, List.filter_append, List.filter_cons]
        rw [hAB] at hndR
        rw [List.nodup_append, List.nodup_cons] at hndR
        have hA2 : A.filter (fun k => decide (k ≠ i)) = A := by
          rw [List.filter_eq_self]
          intro k hk
          have := hndR.2.2 k hk i (by simp)
          simpa using this
        have hB2 : B.filter (fun k => decide (k ≠ i)) = B := by
          rw [List.filter_eq_self]
          intro k hk
          have hne : k ≠ i := fun he => hndR.2.1.1 (by rw [← he]; exact hk)
          simpa using hne
        rw [hA2, hB2]
        simp
      rw [stepOps] at hfront
      obtain ⟨x1, e1, e2⟩ := eval_bind hfront
      refine stepOp_sound hT hC r hd (fun k h3 h4 => hdead i (List.mem_filter.2 ⟨hir, hiu⟩) k ⟨h3, h4⟩) e1 ⟨fun s1 β1 a1 w1 hx r1 st1 t1 n1 => ?_, fun v s1 β1 w1 y hx hnr r1 st1 hy t1 n1 => ?_⟩
      · subst hx
        simp only at e2
        refine ih (listed.setIfInBounds i true) s1 β1 a1 w1 x r1 (by simpa using hsz) (fun k o ho hk e he2 hb => ?_) ?_ ?_ (by rw [hR']; exact e2) (fun s' β' a' w' hx r' st' d' n' => ?_)
        · rw [hset] at hk
          by_cases hki : k = i
          · subst hki
            rw [hoi] at ho
            simp at ho
            subst ho
            exact hset2 _ (hany e he2 hb)
          · rw [if_neg hki] at hk
            exact hset2 _ (hcl k o ho hk e he2 hb)
        · rw [hR']
          rw [hAB] at hf
          simp only [List.length_append, List.length_cons] at hf ⊢
          omega
        · intro j hj k hk
          rw [hR'] at hj
          have hjm : j ∈ (List.range ops.size).filter (fun i => !listed.getD i true) := by
            rw [hAB]
            rcases List.mem_append.1 hj with h | h
            · simp [h]
            · simp [h]
          refine touch_dead t1 (hdead j hjm k hk) (fun hc => ?_)
          have := inR_disj hc hk
          subst this
          rw [hAB, List.nodup_append, List.nodup_cons] at hndR
          rcases List.mem_append.1 hj with h | h
          · exact hndR.2.2 _ h _ (by simp) rfl
          · exact hndR.2.1.1 h
        · exact hQ s' β' a' w' hx r' (st1.trans st') (fun k hk hj => d' k (touch_dead t1 hk (hj i hil)) hj) (n'.trans n1)
      · subst hx
        exfalso
        rw [stepOp_eval (by rw [Array.getElem?_toList]; exact hoi)] at e1
        cases hq : resD E hn ops.toList base i oi s.slot s.ob with
        | none => rw [hq] at e1; cases e1
        | some p => rw [hq] at e1; simp at e1
end
end Go.AH

namespace Go.AH
open Go Go.RowKit

section
variable {E : Env} {P : Program} {Z : Nat → Prop} {n lo m : Nat} {d0 : Dq} {s : St} {β : Nat → Loc} {w w' : World} {a : Act} {h h0 : Nat → Ob} {β0 : Nat → Loc} {w0 : World} {K : (Nat → Ob) → (Nat → Loc) → World → Prop} {B : Nat}

def ExOk (E : Env) (Z : Nat → Prop) (s : St) (β : Nat → Loc) (w : World) : Ex → Exit → Prop
  | .normal, .normal => True
  | .exit i, .exit j => i = j
  | .goto i, .goto j => i = j
  | .ret, .ret => True
  | .panic v, .panic chain => v.noRef = true ∧ ∃ y, chain = [{ v := y, recovered := false }] ∧ Rep E.ty w (Own Z s.ob β) v noR y
  | _, _ => False
def Fresh (s : St) : Prop := ∀ i, s.next ≤ i → s.ob i = .dead
def Post (E : Env) (Z : Nat → Prop) (n lo : Nat) (d0 : Dq) (K : (Nat → Ob) → (Nat → Loc) → World → Prop) (x : Ex × St) : Exit → Act → World → Prop := fun e a w =>
  ∃ β, Rel E Z n lo d0 x.2 β a w ∧ Fresh x.2 ∧ K x.2.ob β w ∧ ExOk E Z x.2 β w x.1 e

theorem kept_heap {O : Nat → Prop} (hh : w'.heap = w.heap) : Kept w w' O O := ⟨by rw [hh]; exact Nat.le_refl _, fun _ _ _ => by rw [hh], fun _ _ h => h⟩
theorem Cx.heap {T : TypeId → Ty} {G : Nat → V} (cx : Cx T G Z h β w) (hh : w'.heap = w.heap) : Cx T G Z h β w' := {
  ob := fun i => (cx.ob i).kept (kept_heap hh) (fun _ _ h => h) (fun _ => by rw [hh])
  ro := cx.ro
  inj := cx.inj
  zlt := fun b hb => by rw [hh]; exact cx.zlt b hb
  zown := cx.zown
  glob := fun g => Rep.kept (kept_heap hh) _ _ _ _ (fun _ _ h => h) (cx.glob g) }
theorem Rel.heap (r : Rel E Z n lo d0 s β a w) (hh : w'.heap = w.heap) : Rel E Z n lo d0 s β a w' := ⟨r.cx.heap hh, fun t => Rep.kept (kept_heap hh) _ _ _ _ (fun _ _ h => h) (r.slots t), r.size, r.defers.heap hh⟩

def isDefer : Op → Bool | .defer _ => true | _ => false
def dstOk (n : Nat) (ops : Array Oper) : Bool := (ops.toList.all fun o => match o.dst with | some d => Nat.blt d n | none => true) && ops.toList.all fun o => !isDefer o.op
theorem dstOk_spec {ops : Array Oper} (h : dstOk n ops = true) : ∀ (i : Nat) (t : Tmp), (ops[i]?).bind (fun o : Oper => o.dst) = some t → t < n := by
  intro i t ht
  unfold dstOk at h
  rw [Bool.and_eq_true, List.all_eq_true] at h
  replace h := h.1
  cases ho : ops[i]? with
  | none => rw [ho] at ht; cases ht
  | some o =>
    rw [ho] at ht
    have h1 := h o (by
      have : ops.toList[i]? = some o := by rw [Array.getElem?_toList]; exact ho
      exact List.mem_of_getElem? this)
    have ht : o.dst = some t := ht
    rw [ht] at h1
    exact Nat.le_of_ble_eq_true h1
/-- No scope, and no range over a function. -/
def flatCode : Code → Bool
  | .seq a b => flatCode a && flatCode b
  | .cond _ a b => flatCode a && flatCode b
  | .block _ b => flatCode b
  | .loop b => flatCode b
  | .scope _ => false
  | .rangeFunc _ _ _ _ => false
  | _ => true
def codeOk (mode : FuncId → List Bool) (dyn : Nat → Bool) (n : Nat) : Code → Bool
  | .region id ops draw => dstOk n ops && (!draw || dyn id || regionOk mode noHint ops.toList)
  | .seq a b => codeOk mode dyn n a && codeOk mode dyn n b
  | .cond _ a b => codeOk mode dyn n a && codeOk mode dyn n b
  | .block _ b => codeOk mode dyn n b
  | .loop b => codeOk mode dyn n b
  | .scope b => codeOk mode dyn n b
  | .rangeFunc _ ps a b => (ps.toList.all (Nat.blt · n)) && (codeOk mode dyn n a && codeOk mode dyn n b) && (flatCode a && flatCode b)
  | _ => true

/-- Where code is run: anywhere, or in a round of a range over a function. -/
structure Free (F : Fence) (P : Program) : Prop where
  fn : ∀ f, F.fn f
  depth : F.depth = none
  calls : ∀ {n : Nat} {f : FuncId} {args : Array Value} {w : World} {R : Ending → World → Prop}, Calls P f args w R → CallsIn F n P f args w R
  rows : ∀ {n : Nat} {row : String} {args : Array Value} {w : World} {R : Value → World → Prop}, Rows P row args w R → RowsIn F n P row args w R
theorem rows_wide {n : Nat} {row : String} {args : Array Value} {w : World} {R : Value → World → Prop} (h : Rows P row args w R) : RowsIn Fence.wide n P row args w R :=
  fun c cs _ => let ⟨v, w', r, s⟩ := h c cs; ⟨v, w', r, stepsIn_wide.2 s⟩
theorem free_wide : Free Fence.wide P := ⟨fun _ => trivial, rfl, fun h => callsIn_wide.2 h, fun h => rows_wide h⟩
theorem free_round (l : Nat) : Free (Fence.wide.inRound l) P := ⟨fun _ => trivial, rfl, fun h => CallsIn.inRound l (callsIn_wide.2 h), fun h => rows_wide h⟩
theorem op_in {F : Fence} {k : Nat} (hF : Free F P) {o : Oper} (hnd : isDefer o.op = false) {K K' : Act → World → Prop} {Q : Exit → Act → World → Prop} (hK : ∀ a w, K a w → K' a w) (h : o.wp P a w K Q) : o.wpIn F k P a w K' Q := by
  have hs : o.semAt F.round a.eval = execOp a.eval o := Oper.semAt_eq _ _ _ (fun c hc => by rw [hc] at hnd; cases hnd)
  have hd : F.depth.isSome = true → 1 ≤ k := fun hh => by rw [hF.depth] at hh; cases hh
  refine ⟨fun f _ => hF.fn f, ?_⟩
  rw [hs]
  unfold Oper.wp at h
  cases hr : (execOp a.eval o).run P w with
  | ok x w' =>
    rw [hr] at h
    cases x with
    | value v => exact hK _ _ h
    | skip => exact hK _ _ h
    | defer d => exact hK _ _ h
    | enter f args =>
      refine ⟨hd, (hF.calls h).mono fun e w' he => ?_⟩
      cases e with
      | returned v => exact hK _ _ he
      | panicked chain => exact he
      | outgrown => exact he
    | row r args => exact ⟨hd, (hF.rows h).mono fun v w' hv => hK _ _ hv⟩
    | _ => exact h.elim
  | halt r w' =>
    rw [hr] at h
    cases r <;> exact h
theorem ops_in {F : Fence} {k : Nat} (hF : Free F P) {ops : Array Oper} (hnd : ∀ o ∈ ops.toList, isDefer o.op = false) {Q : Exit → Act → World → Prop} (hq : ¬ LetsOut Q) : ∀ (l : List Nat) (a : Act) (w : World), wpOps P ops Q l a w → wpOpsIn F k P ops Q l a w
  | [], _, _, h => h
  | i :: rest, a, w, h => by
    unfold wpOps at h
    unfold wpOpsIn
    cases ho : ops[i]? with
    | none =>
      rw [ho] at h
      exact ops_in hF hnd hq rest a w h
    | some o =>
      rw [ho] at h
      simp only at h ⊢
      split
      · rename_i hw
        rw [if_pos hw] at h
        rcases h with h | h
        · refine op_in hF (hnd o ?_) (fun a w h => ops_in hF hnd hq rest a w h) h
          have : ops.toList[i]? = some o := by rw [Array.getElem?_toList]; exact ho
          exact List.mem_of_getElem? this
        · exact absurd h.2 hq
      · rename_i hw
        rw [if_neg hw] at h
        exact ⟨fun f _ => hF.fn f, ops_in hF hnd hq rest _ w h⟩
theorem post_out (x : Ex × St) : ¬ LetsOut (Post E Z n lo d0 K x) := by
  rintro ⟨a, w, β, _, _, _, hx⟩
  obtain ⟨ex, s1⟩ := x
  cases ex <;> exact hx

theorem fl_l {q : Prop} {a b : Bool} (h : q → (a && b) = true) : q → a = true := fun hq => (Bool.and_eq_true _ _ ▸ h hq).1
theorem fl_r {q : Prop} {a b : Bool} (h : q → (a && b) = true) : q → b = true := fun hq => (Bool.and_eq_true _ _ ▸ h hq).2
theorem free_of {F : Fence} (h : F = Fence.wide ∨ ∃ l, F = Fence.wide.inRound l) : Free F P := by
  rcases h with rfl | ⟨l, rfl⟩
  · exact free_wide
  · exact free_round l
theorem region_sound {F : Fence} {kn : Nat} (hF : Free F P) (hT : TyOk P E.ty) (hC : ∀ g, Holds E.ty E.glob P g (E.C g)) {id : Nat} {ops : Array Oper} {draw : Bool} (hd : dstOk n ops = true) (hreg : draw = true → E.dyn id = true ∨ regionOk E.mode noHint ops.toList = true) {x : Ex × St} (he : (exec E m (.region id ops draw) s).eval = some x)
    (hK : KOk m B K) (r : Rel E Z n lo d0 s β a w) (hf : Fresh s) (hw : K s.ob β w) : (Code.region id ops draw).wpIn F kn P (Post E Z n lo d0 K x) a w := by
  have hnd : ∀ o ∈ ops.toList, isDefer o.op = false := fun o ho => by
    unfold dstOk at hd
    rw [Bool.and_eq_true, List.all_eq_true, List.all_eq_true] at hd
    simpa using hd.2 o ho
  rw [exec] at he
  split at he
  · simp [Tr.eval] at he
  · rename_i hok
    obtain ⟨x1, e1, e2⟩ := eval_bind he
    have hd' := dstOk_spec hd
    have hdead : ∀ j i, inR s.next j i → s.ob i = .dead := fun j i hi => hf i (by unfold inR at hi; omega)
    have fresh : ∀ (s' : St), (∀ i, s.ob i = .dead → (∀ j, j < ops.size → ¬ inR s.next j i) → s'.ob i = .dead) → ∀ i, s.next + 64 * ops.toList.length ≤ i → s'.ob i = .dead := by
      intro s' hs' i hi
      have hl : ops.toList.length = ops.size := by simp
      exact hs' i (hf i (by omega)) (fun j hj hc => by unfold inR at hc; omega)
    cases draw with
    | false =>
      have hl : ops.toList.length = ops.size := by simp
      refine wpIn_region (ops_in hF hnd (post_out x) _ _ _ ?_)
      rw [hl] at e1
      refine ops_sound hT hC hd' (List.range ops.size) s β a w x1 r List.nodup_range (fun j _ i hi => hdead j i hi) e1 ⟨fun s' β' a' w' hx r' st' d' n' => ?_, fun v s' β' a' w' y hx hnr r' st' hy d' n' => ?_⟩
      · subst hx
        simp only [Tr.eval, Option.some.injEq] at e2
        subst e2
        exact ⟨β', ⟨r'.cx, r'.slots, r'.size, r'.defers⟩, fresh s' (fun i hi hj => d' i hi (fun j hj2 => hj j (by simpa using hj2))), hK.stp hw st', trivial⟩
      · subst hx
        simp only [Tr.eval, Option.some.injEq] at e2
        subst e2
        exact ⟨β', ⟨r'.cx, r'.slots, r'.size, r'.defers⟩, fresh s' (fun i hi hj => d' i hi (fun j hj2 => hj j (by simpa using hj2))), hK.stp hw st', hnr, y, rfl, hy⟩
    | true =>
      have hl : ops.toList.length = ops.size := by simp
      obtain ⟨hn, hhn⟩ : ∃ hn, hn = hintAt E (true && E.dyn id) ops.toList s := ⟨_, rfl⟩
      rw [← hhn] at e1 hok
      have hok' : regionOk E.mode hn ops.toList = true := by
        cases hq : E.dyn id with
        | true =>
          rw [hq] at hok
          simpa using hok
        | false =>
          rw [hq] at hhn
          rw [hhn]
          rcases hreg rfl with h | h
          · rw [hq] at h; cases h
          · exact h
      refine wpIn_region_draw (fun t => ops_in hF hnd (post_out x) _ _ _ ?_)
      rw [hl] at e1
      have r1 : Rel E Z n lo d0 s β a { w with drawn := w.drawn + 1 } := r.heap rfl
      have hw1 : K s.ob β { w with drawn := w.drawn + 1 } := hK.quiet hw (Quiet.of_heap rfl rfl rfl rfl)
      have hfil : (List.range ops.size).filter (fun i => !(Array.replicate ops.size false).getD i true) = List.range ops.size := by
        rw [List.filter_eq_self]
        intro i hi
        have : i < ops.size := by simpa using hi
        simp [Array.getD_eq_getD_getElem?, this]
      have key : ∀ md, wpAny P md ops (Post E Z n lo d0 K x) ops.size (Array.replicate ops.size false) a { w with drawn := w.drawn + 1 } := by
        intro md
        refine any_sound hT hC hd' hok' md ops.size _ s β a _ x1 r1 (by simp) (fun i o ho hl2 => ?_) (by rw [hfil]; simp) (fun j _ i hi => hdead j i hi) (by rw [hfil]; exact e1) (fun s' β' a' w' hx r' st' d' n' => ?_)
        · have hi := (Array.getElem?_eq_some_iff.1 ho).1
          simp [Array.getD_eq_getD_getElem?, hi] at hl2
        · subst hx
          simp only [Tr.eval, Option.some.injEq] at e2
          subst e2
          exact ⟨β', ⟨r'.cx, r'.slots, r'.size, r'.defers⟩, fresh s' d', hK.stp hw1 st', trivial⟩
      unfold Region.schedule
      split
      · exact wpAny_sound ops.size _ _ a _ (key _)
      · exact wpAny_sound ops.size _ _ a _ (key _)

/- What is kept at a loop's head. -/
theorem ofList_zip (f : Nat → V) : ∀ (l : List Nat) (t : Nat), ofList .top (l.zip (l.map f)) t = .top ∨ ofList .top (l.zip (l.map f)) t = f t
  | [], t => .inl rfl
  | i :: l, t => by
    rw [List.map_cons, List.zip_cons_cons, ofList]
    split
    · rename_i hb
      exact .inr (by rw [nat_of_beq hb])
    · exact ofList_zip f l t
theorem canon_pre (keep : List Nat) (m : Nat) (s : St) : ∀ i, i < m → (canonIds keep m s)[i]? = some i := fun i hi => reach_range _ m _ hi
theorem genC_zero (i g : Nat) (hi : i < m) (h : genC m i g = 0) : g = 0 := by
  unfold genC at h
  have : Nat.blt i m = true := Nat.ble_eq_true_of_le hi
  rw [this] at h
  simp only at h
  omega
theorem canon_sound (keep : List Nat) (r : Rel E Z n lo d0 s β a w) : Rel E Z n lo d0 (mkSt keep (canonV keep m s) (canonO keep m s)) (reL β (canonIds keep m s)) a w := {
  cx := r.cx.re (reach_nodup _ _) (fun b hb => .inl hb) r.cx.zlt (fun i _ mi => r.cx.zown i mi)
  slots := fun t => by
    have hO : ∀ b, Own Z (reH s.ob (genC m) (canonIds keep m s)) (reL β (canonIds keep m s)) b → Own Z s.ob β b := reOwn (fun b hb => .inl hb)
    show Rep _ _ _ (ofList .top (keep.zip (keep.map fun k => reV s.ob (genC m) (canonIds keep m s) (s.slot k))) t) _ _
    rcases ofList_zip (fun k => reV s.ob (genC m) (canonIds keep m s) (s.slot k)) keep t with h1 | h1
    · rw [h1]; exact trivial
    · rw [h1]; exact (r.slots t).re hO
  size := r.size
  defers := r.defers.re }
theorem mkSt_fresh (keep : List Nat) (vs : List V) (os : List Ob) : Fresh (mkSt keep vs os) := fun i hi => by
  show hOf os i = .dead
  rw [hOf_get, List.getElem?_eq_none hi]
  rfl
theorem canon_wk (hK : KOk m B K) (keep : List Nat) (k : K s.ob β w) : K (mkSt keep (canonV keep m s) (canonO keep m s)).ob (reL β (canonIds keep m s)) w :=
  hK.re k (canon_pre keep m s) (fun i g hi h => genC_zero i g hi h)

theorem findLabel_codeOk {mode : FuncId → List Bool} {dyn : Nat → Bool} {l : Nat} : ∀ {c rest : Code}, findLabel c l = some rest → codeOk mode dyn n c = true → codeOk mode dyn n rest = true
  | .seq a b, rest, h, hc => by
    rw [codeOk, Bool.and_eq_true] at hc
    unfold findLabel at h
    split at h
    · rename_i r hr
      simp only [Option.some.injEq] at h
      subst h
      rw [codeOk, Bool.and_eq_true]
      exact ⟨findLabel_codeOk hr hc.1, hc.2⟩
    · exact findLabel_codeOk h hc.2
  | .label l', rest, h, hc => by
    unfold findLabel at h
    split at h
    · simp only [Option.some.injEq] at h
      subst h
      rfl
    · cases h
  | .skip, _, h, _ => by simp [findLabel] at h
  | .region .., _, h, _ => by simp [findLabel] at h
  | .cond .., _, h, _ => by simp [findLabel] at h
  | .block .., _, h, _ => by simp [findLabel] at h
  | .loop .., _, h, _ => by simp [findLabel] at h
  | .scope .., _, h, _ => by simp [findLabel] at h
  | .rangeFunc .., _, h, _ => by simp [findLabel] at h
  | .exit .., _, h, _ => by simp [findLabel] at h
  | .goto .., _, h, _ => by simp [findLabel] at h
  | .ret, _, h, _ => by simp [findLabel] at h
  | .refuse .., _, h, _ => by simp [findLabel] at h
theorem findLabel_size {l : Nat} : ∀ {c rest : Code}, findLabel c l = some rest → SizeOf.sizeOf rest ≤ SizeOf.sizeOf c
  | .seq a b, rest, h => by
    unfold findLabel at h
    split at h
    · rename_i r hr
      simp only [Option.some.injEq] at h
      subst h
      have := findLabel_size hr
      simp
      omega
    · have := findLabel_size h
      simp
      omega
  | .label l', rest, h => by
    unfold findLabel at h
    split at h
    · simp only [Option.some.injEq] at h
      subst h
      simp
    · cases h
  | .skip, _, h => by simp [findLabel] at h
  | .region .., _, h => by simp [findLabel] at h
  | .cond .., _, h => by simp [findLabel] at h
  | .block .., _, h => by simp [findLabel] at h
  | .loop .., _, h => by simp [findLabel] at h
  | .scope .., _, h => by simp [findLabel] at h
  | .rangeFunc .., _, h => by simp [findLabel] at h
  | .exit .., _, h => by simp [findLabel] at h
  | .goto .., _, h => by simp [findLabel] at h
  | .ret, _, h => by simp [findLabel] at h
  | .refuse .., _, h => by simp [findLabel] at h
/-- A loop whose round has an index that falls. -/
theorem least {p : Nat → Prop} (h : ∃ k, p k) : ∃ k, p k ∧ ∀ j, p j → k ≤ j := by
  obtain ⟨k, hk⟩ := h
  induction k using Nat.strongRecOn with
  | _ k ih =>
    by_cases hc : ∃ j, j < k ∧ p j
    · obtain ⟨j, hj, hp⟩ := hc
      exact ih j hj hp
    · exact ⟨k, hk, fun j hj => by
        rcases Nat.lt_or_ge j k with h | h
        · exact absurd ⟨j, h, hj⟩ hc
        · exact h⟩
theorem wp_loop_ix {F : Fence} {kn : Nat} {ι : Type} {c : Code} {Q : Exit → Act → World → Prop} (I : ι → Act → World → Prop) (μ : ι → Nat) (i0 : ι) (h0 : I i0 a w)
    (round : ∀ i a w, I i a w → c.wpIn F kn P (Exit.then (fun a' w' => ∃ j, I j a' w' ∧ μ j < μ i) Q) a w) : (Code.loop c).wpIn F kn P Q a w := by
  classical
  have ex : ∀ a w, (∃ i, I i a w) → ∃ k, (∃ i, I i a w ∧ μ i = k) ∧ ∀ j, (∃ i, I i a w ∧ μ i = j) → k ≤ j := fun a w ⟨i, hi⟩ => least ⟨μ i, i, hi, rfl⟩
  let M : Act → World → Nat := fun a w => if hx : ∃ i, I i a w then (ex a w hx).choose else 0
  refine wpIn_loop (fun a w => ∃ i, I i a w) M ⟨i0, h0⟩ (fun a w hx => ?_)
  obtain ⟨⟨i, hi, hm⟩, _⟩ := (ex a w hx).choose_spec
  have hM : M a w = μ i := by show (if hx : _ then _ else _) = _; rw [dif_pos hx]; exact hm.symm
  refine wpIn_mono (round i a w hi) (fun e a' w' hq => ?_)
  cases e with
  | normal =>
    obtain ⟨j, hj, hlt⟩ := hq
    have hx' : ∃ i, I i a' w' := ⟨j, hj⟩
    refine ⟨hx', ?_⟩
    have hmin := (ex a' w' hx').choose_spec.2 (μ j) ⟨j, hj, rfl⟩
    have hM' : M a' w' = (ex a' w' hx').choose := by show (if hx : _ then _ else _) = _; rw [dif_pos hx']
    rw [hM, hM']
    omega
  | _ => exact hq

def LoopNext (E : Env) (m key : Nat) (μ : List V → List Ob → Nat) (vs : List V) (os : List Ob) (r : Ex × List V × List Ob) : Ex × List V × List Ob → Prop
  | (.normal, vs', os') => μ vs' os' < μ vs os ∧ (E.L m key vs' os').eval = some r
  | y => y = r
/-- What is asked of a loop's model. -/
def LoopLaw (E : Env) (m : Nat) (b : Code) : Prop := ∃ μ : List V → List Ob → Nat, ∀ vs os r, (E.L m (loopKey b) vs os).eval = some r → ∃ y, (loopStep E m (loopKey b) b vs os).eval = some y ∧ LoopNext E m (loopKey b) μ vs os r y
def RangeNext (E : Env) (m key : Nat) (rest : List V) (r : Ex × List V × List Ob) : Ex × List V × List Ob → Prop
  | (.normal, vs', os') => (E.L m key (.tup rest :: vs') os').eval = some r
  | y => y = r
/-- What is asked of the model of a range over a function. -/
def RangeLaw (E : Env) (m : Nat) (ps : List Nat) (assign body : Code) : Prop := ∀ items vs os r, (E.L m (loopKey assign) (.tup items :: vs) os).eval = some r → match items with
  | [] => r = (.normal, vs, os)
  | x :: rest => ∃ y, (rangeStep E m ps assign body x vs os).eval = some y ∧ RangeNext E m (loopKey assign) rest r y
theorem wp_scope_ix {ι : Type} {c rest : Code} {l : Nat} {Q : Exit → Act → World → Prop} (I : ι → Act → World → Prop) (μ : ι → Nat) (hf : findLabel c l = some rest)
    (first : c.wp P (Exit.jump l (fun a' w' => ∃ j, I j a' w') Q) a w) (round : ∀ i a w, I i a w → rest.wp P (Exit.jump l (fun a' w' => ∃ j, I j a' w' ∧ μ j < μ i) Q) a w) : (Code.scope c).wp P Q a w := by
  classical
  have ex : ∀ a w, (∃ i, I i a w) → ∃ k, (∃ i, I i a w ∧ μ i = k) ∧ ∀ j, (∃ i, I i a w ∧ μ i = j) → k ≤ j := fun a w ⟨i, hi⟩ => least ⟨μ i, i, hi, rfl⟩
  let M : Act → World → Nat := fun a w => if hx : ∃ i, I i a w then (ex a w hx).choose else 0
  refine wp_scope_jumps l (fun a w => ∃ i, I i a w) M hf first (fun a w hx => ?_)
  obtain ⟨⟨i, hi, hm⟩, _⟩ := (ex a w hx).choose_spec
  have hM : M a w = μ i := by show (if hx : _ then _ else _) = _; rw [dif_pos hx]; exact hm.symm
  refine wp_mono (round i a w hi) (fun e a' w' hq => ?_)
  cases e with
  | goto l' =>
    obtain ⟨hl, j, hj, hlt⟩ := hq
    have hx' : ∃ i, I i a' w' := ⟨j, hj⟩
    refine ⟨hl, hx', ?_⟩
    have hmin := (ex a' w' hx').choose_spec.2 (μ j) ⟨j, hj, rfl⟩
    have hM' : M a' w' = (ex a' w' hx').choose := by show (if hx : _ then _ else _) = _; rw [dif_pos hx']
    rw [hM, hM']
    omega
  | _ => exact hq

def GotoNext (E : Env) (m l key : Nat) (μ : List V → List Ob → Nat) (vs : List V) (os : List Ob) (r : Ex × List V × List Ob) : Ex × List V × List Ob → Prop
  | (.goto l', vs', os') => l' = l ∧ μ vs' os' < μ vs os ∧ (E.L m key vs' os').eval = some r
  | y => y = r
/-- What is asked of the model of what is run from a label on. -/
def GotoLaw (E : Env) (m l : Nat) (rest : Code) : Prop := ∃ μ : List V → List Ob → Nat, ∀ vs os r, (E.L m (gotoKey l rest) vs os).eval = some r → (∀ l', r.1 ≠ .goto l') ∧ ∃ y, (gotoStep E m (gotoKey l rest) rest vs os).eval = some y ∧ GotoNext E m l (gotoKey l rest) μ vs os r y
def Loops (E : Env) (m : Nat) : Code → Prop
  | .seq a b => Loops E m a ∧ Loops E m b
  | .cond _ a b => Loops E m a ∧ Loops E m b
  | .block _ b => Loops E m b
  | .loop b => LoopLaw E m b ∧ Loops E m b
  | .scope b => Loops E m b ∧ ∀ l rest, findLabel b l = some rest → GotoLaw E m l rest
  | .rangeFunc _ ps a b => RangeLaw E m ps.toList a b ∧ ∀ m', Loops E m' a ∧ Loops E m' b
  | _ => True

/-- A block lies as it lay, and is no object's. -/
def KeepsAt (l : Nat) (o : Obj) : (Nat → Ob) → (Nat → Loc) → World → Prop := fun h β w => w.heap[l]? = some o ∧ ∀ i, Mine h β i → (β i).b ≠ l
theorem KeepsAt.lt {l : Nat} {o : Obj} (k : KeepsAt l o h β w) : l < w.heap.size := (Array.getElem?_eq_some_iff.1 k.1).1
theorem KeepsAt.kok {l : Nat} {o : Obj} {m : Nat} : KOk m (l + 1) (KeepsAt l o) := {
  lo := fun k => k.lt
  stp := fun k s => by
    have hlt := k.lt
    refine ⟨(s.frame l hlt k.2).trans k.1, fun i mi he => ?_⟩
    rcases s.fresh i mi with ⟨j, mj, ej⟩ | ej
    · exact k.2 j mj (ej.trans he)
    · omega
  quiet := fun k q => ⟨by
    rcases q.same l k.lt with h | ⟨h, _⟩
    · exact h.trans k.1
    · omega, k.2⟩
  re := fun k _ _ => ⟨k.1, fun i mi he => by
    obtain ⟨j, _, mj, ej⟩ := reMine mi
    exact k.2 j mj (ej.symm.trans he)⟩ }
theorem KOk.and {m1 m2 B1 B2 : Nat} {K1 K2 : (Nat → Ob) → (Nat → Loc) → World → Prop} (a : KOk m1 B1 K1) (b : KOk m2 B2 K2) (hm : m1 ≤ m2) (hB : B1 ≤ B2) : KOk m2 B2 (fun h β w => K1 h β w ∧ K2 h β w) := {
  lo := fun k => b.lo k.2
  stp := fun k s => ⟨a.stp k.1 s, b.stp k.2 s⟩
  quiet := fun k q => ⟨a.quiet k.1 (q.mono hB), b.quiet k.2 q⟩
  re := fun k h1 h2 => ⟨a.re k.1 (fun i hi => h1 i (by omega)) (fun i g hi h => h2 i g (by omega) h), b.re k.2 h1 h2⟩ }
theorem Wk.put {h' : Nat → Ob} {β' : Nat → Loc} (k : Wk m h β w h' β' w') {l : Nat} (o : Obj) (hl : l < w.heap.size) : Wk m h β (w.putObj l o) h' β' (w'.putObj l o) := {
  os := k.os
  tape := k.tape
  output := k.output
  size := by simpa using k.size
  frame := fun b hb hn => by
    by_cases e : b = l
    · subst e
      rw [World.putObj_heap_same hl, World.putObj_heap_same (Nat.lt_of_lt_of_le hl k.size)]
    · rw [World.putObj_heap_other e, World.putObj_heap_other e]
      exact k.frame b (by simpa using hb) hn
  fresh := fun i hi => by
    have := k.fresh i hi
    simpa using this
  hd := k.hd }

theorem Rel.put (r : Rel E Z n lo d0 s β a w) {l : Nat} {rc : Loop} (hl : w.heap[l]? = some (.loop rc)) (o : Obj) : Rel E Z n lo d0 s β a (w.putObj l o) := by
  have q : Quiet 0 w (w.putObj l o) := Quiet.putObj hl (Nat.zero_le _) o
  obtain ⟨hb0, ld, hld, hmk0, hnd, hmd⟩ := r.defers
  refine ⟨r.cx.quiet q, fun t => Rep.quiet q _ _ _ (r.slots t), r.size, hb0, ld, hld, hmk0, hnd, fun D hD => ?_⟩
  obtain ⟨h1, h2, h3⟩ := hmd D hD
  refine ⟨h1, ?_, h3⟩
  have hne : D ≠ l := fun e => by subst e; rw [hl] at h2; cases h2
  exact (World.putObj_heap_other hne).trans h2
/-- What a round may change, for the function that yields. -/
structure Kp (O0 R : Nat → Prop) (X : World) (R' : Nat → Prop) (Y : World) : Prop where
  size : X.heap.size ≤ Y.heap.size
  same : ∀ b, b < X.heap.size → ¬ O0 b → ¬ R b → Y.heap[b]? = X.heap[b]?
  new : ∀ b, R' b → R b ∨ X.heap.size ≤ b
  lt : ∀ b, R' b → R b ∨ b < Y.heap.size
/-- The function yields these items, one after the other. -/
def SeqAt (T : TypeId → Ty) (kn : Nat) (P : Program) (gf : Nat) (lb : Array Value) (items : List V) (O0 : Nat → Prop) (w : World) : Prop :=
  ∀ (l : Nat) (J : Nat → (Nat → Prop) → World → Prop) (Jx : World → Prop) (W : World), Quiet w.heap.size w W →
    (∀ k R X Y, J k R X → Quiet W.heap.size X Y → J k R Y) → (∀ X Y, Jx X → Quiet W.heap.size X Y → Jx Y) →
    (∀ k R X vs args, items[k]? = some (.tup vs) → J k R X → RepL T X (fun b => O0 b ∨ R b) vs noR args →
      YieldAt Fence.wide (kn - 1) P l args.toArray X fun e Y => (e = .returned (.bool true) ∧ ∃ R', J (k + 1) R' Y ∧ Kp O0 R X R' Y) ∨ (e = .returned (.bool false) ∧ Jx Y ∧ ∃ R', Kp O0 R X R' Y)) →
    J 0 (fun b => w.heap.size ≤ b ∧ b < W.heap.size) W →
    CallsIn Fence.wide kn P gf (#[.func (.yield l) #[] #[]] ++ lb) W fun e Y => (∃ v, e = .returned v) ∧ ((∃ R, J items.length R Y) ∨ Jx Y)
def ItersOk (E : Env) (P : Program) : Prop := ∀ gf caps items, E.it gf caps = some items →
  (∀ args w, (callFunc gf args).run P w = .ok (.enter gf args) w) ∧
  ∀ kn O w (lb : Array Value), (∀ b, O b → b < w.heap.size) → (∀ g, Rep E.ty w O (E.glob g) noR (.pointer (some ⟨g, 0, none⟩))) → RepL E.ty w O caps noR lb.toList → SeqAt E.ty kn P gf lb items O w
theorem itersOk_none (h : ∀ f caps, E.it f caps = none) : ItersOk E P := fun gf caps items hi => by rw [h] at hi; cases hi
def Sound (E : Env) (P : Program) (Z : Nat → Prop) (n lo : Nat) (d0 : Dq) (c : Code) : Prop :=
  ∀ (F : Fence) (kn m B : Nat) (K : (Nat → Ob) → (Nat → Loc) → World → Prop), (F = Fence.wide ∨ ∃ l, F = Fence.wide.inRound l) → KOk m B K → lo ≤ B → ∀ (s : St) (x : Ex × St) (β : Nat → Loc) (a : Act) (w : World), codeOk E.mode E.dyn n c = true → (F ≠ Fence.wide ∨ d0.marks = false → flatCode c = true) → Loops E m c → (exec E m c s).eval = some x →
    Rel E Z n lo d0 s β a w → Fresh s → K s.ob β w → c.wpIn F kn P (Post E Z n lo d0 K x) a w
def exCode : Ex → Option Code
  | .ret => some .ret | .exit i => some (.exit i) | _ => none
theorem setPs_rep {T : TypeId → Ty} {O : Nat → Prop} {R : V → Value → Prop} : ∀ (ps : List Nat) (vs : List V) (args : List Value) (s : Nat → V) (tm : Array Value), (∀ p ∈ ps, p < tm.size) → SRep T w O R s { tmps := tm, defers := [] } → RepL T w O vs R args →
    SRep T w O R (setPs s ps vs) { tmps := (ps.zip args).foldl (fun t p => t.setIfInBounds p.1 p.2) tm, defers := [] } ∧ ((ps.zip args).foldl (fun t p => t.setIfInBounds p.1 p.2) tm).size = tm.size
  | [], vs, args, s, tm, _, hs, _ => by
    refine ⟨?_, rfl⟩
    cases vs <;> exact hs
  | p :: ps, [], args, s, tm, _, hs, h => by
    have : args = [] := h
    subst this
    exact ⟨hs, rfl⟩
  | p :: ps, v :: vs, args, s, tm, hp, hs, h => by
    obtain ⟨y, r, rfl, h1, h2⟩ := h
    have h3 := hs.put (d := some p) (v := v) (x := y) (fun t ht => by injection ht with ht; subst ht; exact hp p (by simp)) h1
    have h4 := setPs_rep ps vs r (upd s p v) (tm.setIfInBounds p y) (fun q hq => by simpa using hp q (by simp [hq])) h3 h2
    refine ⟨h4.1, ?_⟩
    have h5 := h4.2
    simpa using h5

theorem range_sound (hT : TyOk P E.ty) (hC : ∀ g, Holds E.ty E.glob P g (E.C g)) (hI : ItersOk E P) {assign body : Code} (ha : Sound E P Z n lo ⟨true, []⟩ assign) (hbd : Sound E P Z n lo ⟨true, []⟩ body) {F : Fence} {kn : Nat}
    (hF : F = Fence.wide ∨ ∃ l, F = Fence.wide.inRound l) (hK : KOk m B K) (hlo : lo ≤ B) {g : Operand} {ps : Array Tmp} {x : Ex × St} (hc : codeOk E.mode E.dyn n (.rangeFunc g ps assign body) = true) (hg : F ≠ Fence.wide ∨ d0.marks = false → flatCode (.rangeFunc g ps assign body) = true)
    (hl : Loops E m (.rangeFunc g ps assign body)) (he : (exec E m (.rangeFunc g ps assign body) s).eval = some x) (r : Rel E Z n lo d0 s β a w) (hw : K s.ob β w) : (Code.rangeFunc g ps assign body).wpIn F kn P (Post E Z n lo d0 K x) a w := by
  have hwide : F = Fence.wide := by
    by_cases h : F = Fence.wide
    · exact h
    · have := hg (.inl h)
      cases this
  subst hwide
  rw [codeOk] at hc
  simp only [Bool.and_eq_true] at hc
  obtain ⟨⟨hps, hca, hcb⟩, hfa, hfb⟩ := hc
  obtain ⟨hlaw, hloops⟩ := hl
  rw [exec] at he
  split at he
  case h_2 => simp [Tr.eval] at he
  rename_i f caps hev
  split at he
  case h_2 => simp [Tr.eval] at he
  rename_i href
  split at he
  case h_2 => simp [Tr.eval] at he
  rename_i items hit
  obtain ⟨res, e1, e2⟩ := eval_bind he
  simp only [Tr.eval, Option.some.injEq] at e2
  subst e2
  obtain ⟨keep, hkeep⟩ : ∃ k, k = E.keep (loopKey assign) := ⟨_, rfl⟩
  have hgv := r.slots.ev r.cx.glob g
  rw [hev] at hgv
  obtain ⟨p, q, hq, hp, hcaps⟩ := hgv
  have hp0 : p = #[] := by
    have : p.toList = [] := hp
    simpa using this
  subst hp0
  have hcaps' : RepL E.ty w (Own Z s.ob β) caps noR q.toList := RepL.refs caps _ _ _ (fun rr y hs hr => by
    have h1 : rr.refs = [] := by
      rw [List.eq_nil_iff_forall_not_mem]
      intro i hi
      have := hs i hi
      rw [← V.refsLF_eq, href] at this
      cases this
    exact absurd h1 (RefRep.refs hr)) hcaps
  obtain ⟨hent, hseq⟩ := hI f caps items hit
  have hO0 : ∀ b, Own Z s.ob β b → b < w.heap.size := by
    rintro b (hz | ⟨i, mi, rfl⟩)
    · exact r.cx.zlt b hz
    · exact (r.cx.ob i).lt (Ob.rw_alive mi.1) mi.2
  have hB := hK.lo hw
  have hmk := r.defers.lt
  refine wpIn_rangeFunc (fun fn hfn => ?_)
  obtain ⟨rec, hrec⟩ : ∃ rec : LoopState → Option Code → Loop, rec = fun st pe => { state := st, pending := pe, fn, tmps := a.tmps, params := ps, assign, body, defers := w.heap.size } := ⟨_, rfl⟩
  obtain ⟨W1, hW1⟩ : ∃ W1, (w.alloc (.deferred (some []))).alloc (.loop (rec .ready none)) = W1 := ⟨_, rfl⟩
  have hs1 : W1.heap.size = w.heap.size + 2 := by rw [← hW1]; simp [World.size_alloc]
  have hL1 : W1.heap[w.heap.size + 1]? = some (.loop (rec .ready none)) := by
    rw [← hW1]
    have := World.alloc_heap_new (w.alloc (.deferred (some []))) (.loop (rec .ready none))
    rwa [World.size_alloc] at this
  have hQ1 : ∀ B', Quiet B' w W1 := fun B' => by rw [← hW1]; exact (Quiet.alloc w _).trans (Quiet.alloc _ _)
  have hD1 : W1.heap[w.heap.size]? = some (.deferred (some [])) := by
    rw [← hW1]
    show (((w.heap.push (.deferred (some []))).push _)[w.heap.size]?) = _
    rw [Array.getElem?_push_lt (by simp)]
    simp
  obtain ⟨l, hlq⟩ : ∃ l, l = w.heap.size + 1 := ⟨_, rfl⟩
  obtain ⟨D, hDq⟩ : ∃ D, D = w.heap.size := ⟨_, rfl⟩
  rw [← hlq] at hL1
  rw [← hDq] at hD1
  refine ⟨l, [{ target := .collected D, args := #[] }], W1, { target := .fn (.func f) q, args := #[.func (.yield l) #[] #[]] }, W1, f, #[.func (.yield l) #[] #[]] ++ q, W1, ?_, ?_, ?_, ?_, (fun h => absurd h (by simp [Fence.wide])), ?_⟩
  · rw [← hW1, hrec, hlq, hDq]
    exact run_enterLoop_outer _ _ _ _ _
  · simp only [resolve, hq]
    simp [go_sem]
  · intro f' _
    trivial
  · simp [invoke, go_sem, hent]
  · have hO1 : ∀ {os : List Ob} {β' : Nat → Loc} {R : Nat → Prop} , (∀ i, Mine (hOf os) β' i → Own Z s.ob β (β' i).b ∨ R (β' i).b) → ∀ b, Own Z (hOf os) β' b → Own Z s.ob β b ∨ R b := by
      rintro os β' R hm b (hz | ⟨i, mi, rfl⟩)
      · exact .inl (.inl hz)
      · exact hm i mi
    refine (hseq (kn - 1) (Own Z s.ob β) w q hO0 r.cx.glob hcaps' l
      (fun k R X => ∃ vs os β', (E.L m (loopKey assign) (.tup (items.drop k) :: vs) os).eval = some res ∧ Rel E Z n lo d0 (mkSt keep vs os) β' a X ∧ K (hOf os) β' X ∧ (∀ i, Mine (hOf os) β' i → Own Z s.ob β (β' i).b ∨ R (β' i).b) ∧
        KeepsAt l (.loop (rec .ready none)) (hOf os) β' X ∧ KeepsAt D (.deferred (some [])) (hOf os) β' X ∧ R l)
      (fun X => ∃ ex c vs os β', res = (ex, vs, os) ∧ exCode ex = some c ∧ Rel E Z n lo d0 (mkSt keep vs os) β' a X ∧ K (hOf os) β' X ∧
        KeepsAt l (.loop (rec .done (some c))) (hOf os) β' X ∧ KeepsAt D (.deferred (some [])) (hOf os) β' X)
      W1 (hQ1 _) ?_ ?_ ?_ ?_).mono ?_
    · rintro k R X Y ⟨vs, os, β', h1, h2, h3, h4, h5, h6, h7⟩ hqu
      exact ⟨vs, os, β', h1, h2.quiet hqu (fun D' hD' => by have := hmk D' hD'; omega), hK.quiet h3 (hqu.mono (by omega)), h4, KeepsAt.kok.quiet (m := 0) h5 (hqu.mono (by omega)), KeepsAt.kok.quiet (m := 0) h6 (hqu.mono (by omega)), h7⟩
    · rintro X Y ⟨ex, c, vs, os, β', h0, h1, h2, h3, h5, h6⟩ hqu
      exact ⟨ex, c, vs, os, β', h0, h1, h2.quiet hqu (fun D' hD' => by have := hmk D' hD'; omega), hK.quiet h3 (hqu.mono (by omega)), KeepsAt.kok.quiet (m := 0) h5 (hqu.mono (by omega)), KeepsAt.kok.quiet (m := 0) h6 (hqu.mono (by omega))⟩
    · rintro k R X xs args hx ⟨vs, os, β', hL, hr, hk, hm, hkl, hkd, hR⟩ hargs
      obtain ⟨hklt, hxe⟩ := List.getElem?_eq_some_iff.1 hx
      have hdrop : items.drop k = .tup xs :: items.drop (k + 1) := by rw [List.drop_eq_getElem_cons hklt, hxe]
      rw [hdrop] at hL
      obtain ⟨y, hy1, hy2⟩ := hlaw _ _ _ _ hL
      unfold rangeStep at hy1
      simp only at hy1
      split at hy1
      case h_2 => simp [Tr.eval] at hy1
      rename_i hcnd
      simp only [Bool.and_eq_true] at hcnd
      obtain ⟨⟨hlen, hgen⟩, hmle⟩ := hcnd
      obtain ⟨⟨ex1, s1⟩, f1, f2⟩ := eval_bind hy1
      have hn1 : ex1 = .normal := by
        cases ex1 with
        | normal => rfl
        | _ => simp [Tr.eval] at f2
      subst hn1
      simp only at f2
      obtain ⟨⟨ex2, s2⟩, f3, f4⟩ := eval_bind f2
      have hmle' : m ≤ os.length := Nat.le_of_ble_eq_true hmle
      have hnew : New (hOf os) := by
        intro i ro g' t vs' hq
        rw [hOf_get] at hq
        cases ho : os[i]? with
        | none => rw [ho] at hq; cases hq
        | some o =>
          rw [ho] at hq
          have h1 := List.all_eq_true.1 hgen o (List.mem_of_getElem? ho)
          simp only [Option.getD_some] at hq
          rw [hq] at h1
          exact Nat.eq_of_beq_eq_true h1
      have hlt : l < X.heap.size := hkl.lt
      have hltD : D < X.heap.size := hkd.lt
      have hal : args.length = ps.size := by
        have h1 := hargs.length
        have h2 := Nat.eq_of_beq_eq_true hlen
        simp at h2
        omega
      have hargs2 : RepL E.ty X (Own Z (hOf os) β') xs (RefRep E.ty (hOf os) β') args := RepL.kept (Kept.less (hO1 hm)) xs _ _ _ (fun _ _ h => h.elim) hargs
      have hps' : ∀ p ∈ ps.toList, p < a.tmps.size := fun p hp => by
        rw [hr.size]
        exact Nat.le_of_ble_eq_true (List.all_eq_true.1 hps p hp)
      obtain ⟨hset, hsz⟩ := setPs_rep ps.toList xs args (mkSt keep vs os).slot a.tmps hps' hr.slots hargs2
      obtain ⟨tm, htm⟩ : ∃ tm, tm = (ps.toList.zip args).foldl (fun t p => t.setIfInBounds p.1 p.2) a.tmps := ⟨_, rfl⟩
      rw [← htm] at hset hsz
      have hr0 : Rel E Z n lo ⟨true, []⟩ ⟨setPs (mkSt keep vs os).slot ps.toList xs, hOf os, os.length⟩ β' { tmps := tm, defers := [] } X := ⟨hr.cx, hset, hsz.trans hr.size, Marks.nil Dq.nil_ok⟩
      have hf0 : Fresh ⟨setPs (mkSt keep vs os).slot ps.toList xs, hOf os, os.length⟩ := fun i hi => by
        show hOf os i = .dead
        rw [hOf_get, List.getElem?_eq_none hi]
        rfl
      have hyl := run_yield (P := P) (args := args.toArray) hkl.1 (by rw [hrec]; simpa using hal)
      have htm2 : (((rec .ready none).params.zip args.toArray).foldl (fun tmps (p : Tmp × Value) => tmps.setIfInBounds p.1 p.2) (rec .ready none).tmps) = tm := by
        rw [htm, hrec]
        show (ps.zip args.toArray).foldl (fun tmps (p : Tmp × Value) => tmps.setIfInBounds p.1 p.2) a.tmps = _
        rw [← Array.foldl_toList, Array.toList_zip]
      have hKA : KOk os.length X.heap.size (fun h b w' => ((K h b w' ∧ KeepsAt D (.deferred (some [])) h b w') ∧ KeepsAt l (.loop (rec .ready none)) h b w') ∧ Wk os.length (hOf os) β' X h b w') :=
        ((hK.and (KeepsAt.kok (m := os.length)) hmle' (by omega)).and (KeepsAt.kok (m := os.length)) (Nat.le_refl _) (by omega)).and (Wk.kok hnew) (Nat.le_refl _) hlt
      have hKB : KOk os.length X.heap.size (fun h b w' => ((K h b w' ∧ KeepsAt D (.deferred (some [])) h b w') ∧ KeepsAt l (.loop { rec .ready none with state := .busy }) h b w') ∧ Wk os.length (hOf os) β' (X.putObj l (.loop { rec .ready none with state := .busy })) h b w') := by
        have h1 := ((hK.and (KeepsAt.kok (l := D) (o := .deferred (some [])) (m := os.length)) hmle' (by omega)).and (KeepsAt.kok (l := l) (o := .loop { rec .ready none with state := .busy }) (m := os.length)) (Nat.le_refl _) (by omega)).and (Wk.kok (m := os.length) (β0 := β') (w0 := X.putObj l (.loop { rec .ready none with state := .busy })) hnew) (Nat.le_refl _) (by simp; omega)
        simpa using h1
      refine ⟨_, _, _, _, hyl, ?_⟩
      rw [htm2]
      have hfn : (rec .ready none).assign = assign ∧ (rec .ready none).body = body := by rw [hrec]; exact ⟨rfl, rfl⟩
      rw [hfn.1, hfn.2]
      refine roundIn_of_wpIn trivial (wpIn_mono (ha (Fence.wide.inRound l) _ os.length _ _ (.inr ⟨l, rfl⟩) hKA (by omega) _ _ β' _ X hca (fun _ => hfa) (hloops _).1 (by rw [hkeep]; exact f1) hr0 hf0 ⟨⟨⟨hk, hkd⟩, hkl⟩, Wk.refl⟩) ?_)
      rintro e a1 w1 ⟨β1, r1, hf1, ⟨⟨⟨k1, kd1⟩, kl1⟩, wk1⟩, hx1⟩
      cases e with
      | normal =>
        refine ⟨_, run_beginRound kl1.1 (by rw [hrec]), ?_⟩
        have hq1 : Quiet l w1 (w1.putObj l (.loop { rec .ready none with state := .busy })) := Quiet.putObj kl1.1 (Nat.le_refl _) _
        refine wpIn_mono (hbd (Fence.wide.inRound l) _ os.length _ _ (.inr ⟨l, rfl⟩) hKB (by omega) _ _ β1 a1 _ hcb (fun _ => hfb) (hloops _).2 f3 (r1.put kl1.1 _) hf1
          ⟨⟨⟨hK.quiet k1 (hq1.mono (by omega)), KeepsAt.kok.quiet (m := 0) kd1 (hq1.mono (by omega))⟩, World.putObj_heap_same kl1.lt, kl1.2⟩, wk1.put _ hlt⟩) ?_
        rintro e a3 w3 ⟨β3, r3, hf3, ⟨⟨⟨k3, kd3⟩, kl3⟩, wk3⟩, hx3⟩
        have fin : ∀ rc : Loop, Rel E Z n lo d0 ⟨(mkSt keep vs os).slot, s2.ob, s2.next⟩ β3 a (w3.putObj l (.loop rc)) ∧ K s2.ob β3 (w3.putObj l (.loop rc)) ∧ KeepsAt l (.loop rc) s2.ob β3 (w3.putObj l (.loop rc)) ∧ KeepsAt D (.deferred (some [])) s2.ob β3 (w3.putObj l (.loop rc)) := by
          intro rc
          have hq3 : Quiet l w3 (w3.putObj l (.loop rc)) := Quiet.putObj kl3.1 (Nat.le_refl _) _
          have hX : Quiet l X (X.putObj l (.loop { rec .ready none with state := .busy })) := Quiet.putObj hkl.1 (Nat.le_refl _) _
          have st : Stp (hOf os) β' (X.putObj l (.loop { rec .ready none with state := .busy })) s2.ob β3 w3 := ⟨wk3.os, wk3.tape, wk3.output, wk3.size, wk3.frame, wk3.fresh, fun i => by
            by_cases hi : i < os.length
            · exact wk3.hd i hi
            · rw [hOf_get, List.getElem?_eq_none (by omega)]
              trivial⟩
          have hrX := hr.put hkl.1 (.loop { rec .ready none with state := .busy })
          refine ⟨⟨r3.cx.quiet hq3, fun t => Rep.quiet hq3 _ _ _ (st.rep hrX.cx (hrX.slots t)), hr.size, ?_⟩, hK.quiet k3 (hq3.mono (by omega)), ⟨World.putObj_heap_same kl3.lt, kl3.2⟩, KeepsAt.kok.quiet (m := 0) kd3 (hq3.mono (by omega))⟩
          exact (hrX.defers.stp st).quiet hq3 (fun D' hD' => by have := hmk D' hD'; omega)
        have kp : ∀ rc : Loop, ∃ R' : Nat → Prop, (∀ i, Mine s2.ob β3 i → Own Z s.ob β (β3 i).b ∨ R' (β3 i).b) ∧ R' l ∧ Kp (Own Z s.ob β) R X R' (w3.putObj l (.loop rc)) := by
          intro rc
          refine ⟨fun b => R b ∨ (X.heap.size ≤ b ∧ b < (w3.putObj l (.loop rc)).heap.size), fun i mi => ?_, .inl hR, ⟨?_, fun b hb hz hnr => ?_, fun b hb => hb.imp id And.left, fun b hb => hb.imp id And.right⟩⟩
          · rcases wk3.fresh i mi with ⟨j, mj, ej⟩ | ej
            · rw [← ej]
              rcases hm j mj with h | h
              · exact .inl h
              · exact .inr (.inl h)
            · have hlt3 := (r3.cx.ob i).lt (Ob.rw_alive mi.1) mi.2
              exact .inr (.inr ⟨by simpa using ej, by simpa using hlt3⟩)
          · have := wk3.size
            simpa using this
          · have hbl : b ≠ l := fun e => hnr (e ▸ hR)
            have h1 := wk3.frame b (by simpa using hb) (fun i mi e => by
              rcases hm i mi with h | h
              · exact hz (e ▸ h)
              · exact hnr (e ▸ h))
            rw [World.putObj_heap_other hbl, h1, World.putObj_heap_other hbl]
        have hcm : ∀ rc : Loop, Rel E Z n lo d0 (mkSt keep (canonV keep m ⟨(mkSt keep vs os).slot, s2.ob, s2.next⟩) (canonO keep m ⟨(mkSt keep vs os).slot, s2.ob, s2.next⟩)) (reL β3 (canonIds keep m ⟨(mkSt keep vs os).slot, s2.ob, s2.next⟩)) a (w3.putObj l (.loop rc)) := fun rc => canon_sound keep (fin rc).1
        have hck : ∀ {l' : Nat} {o : Obj} {Y : World}, KeepsAt l' o s2.ob β3 Y → KeepsAt l' o (hOf (canonO keep m ⟨(mkSt keep vs os).slot, s2.ob, s2.next⟩)) (reL β3 (canonIds keep m ⟨(mkSt keep vs os).slot, s2.ob, s2.next⟩)) Y := fun h => ⟨h.1, fun i mi he => by
          obtain ⟨j, _, mj, ej⟩ := reMine mi
          exact h.2 j mj (ej.symm.trans he)⟩
        have hcK : ∀ {Y : World}, K s2.ob β3 Y → K (hOf (canonO keep m ⟨(mkSt keep vs os).slot, s2.ob, s2.next⟩)) (reL β3 (canonIds keep m ⟨(mkSt keep vs os).slot, s2.ob, s2.next⟩)) Y := fun h => canon_wk (s := ⟨(mkSt keep vs os).slot, s2.ob, s2.next⟩) hK keep h
        cases ex2 with
        | normal =>
          cases e with
          | normal =>
            simp only [Tr.eval, Option.some.injEq] at f4
            subst f4
            refine ⟨_, _, run_endRound none kl3.1, .inl ⟨rfl, ?_⟩⟩
            obtain ⟨R', h1, h2, h3⟩ := kp { rec .ready none with state := .ready, pending := none }
            have hrr : ({ rec .ready none with state := .ready, pending := none } : Loop) = rec .ready none := by rw [hrec]
            refine ⟨R', ⟨_, _, _, hkeep ▸ hy2, hcm _, hcK (fin _).2.1, fun i mi => ?_, hrr ▸ hck (fin _).2.2.1, hck (fin _).2.2.2, h2⟩, h3⟩
            obtain ⟨j, _, mj, ej⟩ := reMine mi
            rw [ej]
            exact h1 j mj
          | _ => exact hx3.elim
        | ret =>
          cases e with
          | ret =>
            simp only [Tr.eval, Option.some.injEq] at f4
            subst f4
            refine ⟨_, _, run_endRound (some .ret) kl3.1, .inr ⟨rfl, ?_⟩⟩
            have hrr : ({ rec .ready none with state := .done, pending := some .ret } : Loop) = rec .done (some .ret) := by rw [hrec]
            obtain ⟨R', _, _, h3⟩ := kp { rec .ready none with state := .done, pending := some .ret }
            exact ⟨⟨.ret, .ret, _, _, _, hkeep ▸ hy2.symm, rfl, hcm _, hcK (fin _).2.1, hrr ▸ hck (fin _).2.2.1, hck (fin _).2.2.2⟩, R', h3⟩
          | _ => exact hx3.elim
        | exit i =>
          cases e with
          | exit i' =>
            have hii : i = i' := hx3
            subst hii
            simp only [Tr.eval, Option.some.injEq] at f4
            subst f4
            refine ⟨_, _, run_endRound (some (.exit i)) kl3.1, .inr ⟨rfl, ?_⟩⟩
            have hrr : ({ rec .ready none with state := .done, pending := some (.exit i) } : Loop) = rec .done (some (.exit i)) := by rw [hrec]
            obtain ⟨R', _, _, h3⟩ := kp { rec .ready none with state := .done, pending := some (.exit i) }
            exact ⟨⟨(.exit i), (.exit i), _, _, _, hkeep ▸ hy2.symm, rfl, hcm _, hcK (fin _).2.1, hrr ▸ hck (fin _).2.2.1, hck (fin _).2.2.2⟩, R', h3⟩
          | _ => exact hx3.elim
        | goto l => simp [Tr.eval] at f4
        | panic v => simp [Tr.eval] at f4
      | _ => exact hx1.elim
    · refine ⟨_, _, _, by rw [List.drop_zero]; exact hkeep ▸ e1, canon_sound keep (r.quiet (hQ1 w.heap.size) hmk), canon_wk hK keep (hK.quiet hw (hQ1 _)), ?_, ?_, ?_, by omega⟩
      · intro k mk
        obtain ⟨i, _, mi, ei⟩ := reMine mk
        exact .inl (.inr ⟨i, mi, ei.symm⟩)
      · exact ⟨hL1, fun k mk => by
          obtain ⟨i, _, mi, ei⟩ := reMine mk
          have := hO0 _ (.inr ⟨i, mi, rfl⟩)
          omega⟩
      · exact ⟨hD1, fun k mk => by
          obtain ⟨i, _, mi, ei⟩ := reMine mk
          have := hO0 _ (.inr ⟨i, mi, rfl⟩)
          omega⟩
    · rintro e Y ⟨⟨v, rfl⟩, hY⟩
      have marks : ∀ {os : List Ob} {β' : Nat → Loc} {Y : World}, Marks lo d0 (hOf os) β' Y a.defers → KeepsAt D (.deferred (some [])) (hOf os) β' Y → lo ≤ D → Marks lo d0 (hOf os) β' Y ([{ target := .collected D, args := #[] }] ++ a.defers) := by
        intro os β' Y hm hd hlo
        obtain ⟨hb0, ld, hld, _, hnd, hmd⟩ := hm
        refine ⟨hb0, D :: ld, by rw [hld]; rfl, fun hq => absurd (hg (.inr hq)) (by simp [flatCode]), List.nodup_cons.2 ⟨fun hD' => ?_, hnd⟩, fun D' hD' => ?_⟩
        · have := hmk D (by rw [hld]; exact List.mem_append.2 (.inl (List.mem_map.2 ⟨D, hD', rfl⟩)))
          omega
        · rcases List.mem_cons.1 hD' with rfl | h
          · exact ⟨hlo, hd⟩
          · exact hmd D' h
      rcases hY with ⟨R, vs, os, β', hL, hr, hk, hm, hkl, hkd, hR⟩ | ⟨ex, c, vs, os, β', h0, h1, hr, hk, hkl, hkd⟩
      · rw [List.drop_length] at hL
        have h0 := hlaw [] vs os res hL
        have hqu : Quiet l Y (Y.putObj l (.loop { rec .ready none with state := .exhausted })) := Quiet.putObj hkl.1 (Nat.le_refl _) _
        have hlt0 : lo ≤ D := by omega
        refine ⟨none, _, by have := run_endLoop (P := P) hkl.1 (by rw [hrec]; simp); rw [this, hrec], ?_⟩
        rw [h0]
        have hk3 := hK.quiet hk (hqu.mono (by omega))
        have hr2 := hr.quiet hqu (fun D' hD' => by have := hmk D' hD'; omega)
        have hd2 := KeepsAt.kok.quiet (m := 0) hkd (hqu.mono (by omega))
        have hr3 : Rel E Z n lo d0 (mkSt keep vs os) β' { a with defers := [{ target := .collected D, args := #[] }] ++ a.defers } _ := ⟨hr2.cx, hr2.slots, hr2.size, marks hr2.defers hd2 hlt0⟩
        rw [hkeep] at hr3
        rw [hrec] at hr3 hk3
        exact ⟨β', hr3, mkSt_fresh _ _ _, hk3, trivial⟩
      · have hlt0 : lo ≤ D := by omega
        have hqu : Quiet l Y (Y.putObj l (.loop { rec .done (some c) with state := .exhausted })) := Quiet.putObj hkl.1 (Nat.le_refl _) _
        refine ⟨some c, _, by have := run_endLoop (P := P) hkl.1 (by rw [hrec]; simp); rw [this, hrec], ?_⟩
        rw [h0]
        have hr2 := hr.quiet hqu (fun D' hD' => by have := hmk D' hD'; omega)
        have hd2 := KeepsAt.kok.quiet (m := 0) hkd (hqu.mono (by omega))
        have hr3 : Rel E Z n lo d0 (mkSt keep vs os) β' { a with defers := [{ target := .collected D, args := #[] }] ++ a.defers } _ := ⟨hr2.cx, hr2.slots, hr2.size, marks hr2.defers hd2 hlt0⟩
        have hk3 := hK.quiet hk (hqu.mono (by omega))
        rw [hkeep] at hr3
        rw [hrec] at hr3 hk3
        cases ex with
        | ret =>
          cases h1
          exact wpIn_ret ⟨β', hr3, mkSt_fresh _ _ _, hk3, trivial⟩
        | exit i =>
          cases h1
          exact wpIn_exit ⟨β', hr3, mkSt_fresh _ _ _, hk3, rfl⟩
        | _ => cases h1
theorem findLabel_loops {E : Env} {m l : Nat} : ∀ {c rest : Code}, findLabel c l = some rest → Loops E m c → Loops E m rest
  | .seq a b, rest, h, hc => by
    unfold findLabel at h
    split at h
    · rename_i r hr
      simp only [Option.some.injEq] at h
      subst h
      exact ⟨findLabel_loops hr hc.1, hc.2⟩
    · exact findLabel_loops h hc.2
  | .label l', rest, h, hc => by
    unfold findLabel at h
    split at h
    · simp only [Option.some.injEq] at h
      subst h
      trivial
    · cases h
  | .skip, _, h, _ => by simp [findLabel] at h
  | .region .., _, h, _ => by simp [findLabel] at h
  | .cond .., _, h, _ => by simp [findLabel] at h
  | .block .., _, h, _ => by simp [findLabel] at h
  | .loop .., _, h, _ => by simp [findLabel] at h
  | .scope .., _, h, _ => by simp [findLabel] at h
  | .rangeFunc .., _, h, _ => by simp [findLabel] at h
  | .exit .., _, h, _ => by simp [findLabel] at h
  | .goto .., _, h, _ => by simp [findLabel] at h
  | .ret, _, h, _ => by simp [findLabel] at h
  | .refuse .., _, h, _ => by simp [findLabel] at h
theorem exec_sound (hT : TyOk P E.ty) (hC : ∀ g, Holds E.ty E.glob P g (E.C g)) (hI : ItersOk E P) : ∀ (c : Code) (d0 : Dq), Sound E P Z n lo d0 c
  | .skip, d0, F, kn, m, B, K, hF, hK, hlo, s, x, β, a, w, _, _, _, he, r, hf, hw => by
    simp only [exec, Tr.eval, Option.some.injEq] at he
    subst he
    exact wpIn_skip ⟨β, r, hf, hw, trivial⟩
  | .label l, d0, F, kn, m, B, K, hF, hK, hlo, s, x, β, a, w, _, _, _, he, r, hf, hw => by
    simp only [exec, Tr.eval, Option.some.injEq] at he
    subst he
    exact wpIn_label ⟨β, r, hf, hw, trivial⟩
  | .scope c, d0, F, kn, m, B, K, hF, hK, hlo, s, x, β, a, w, hc, hg, hl, he, r, hf, hw => by
    rw [exec] at he
    by_cases hw1 : F = Fence.wide
    · subst hw1
      have hgd : ¬ d0.marks = false := fun h => by have := hg (.inr h); cases this
      rw [wpIn_wide]
      obtain ⟨x1, e1, e2⟩ := eval_bind he
      have h0 := exec_sound hT hC hI c d0 Fence.wide kn m B K (.inl rfl) hK hlo s x1 β a w hc (fun h => by rcases h with h | h; exact absurd rfl h; exact absurd h hgd) hl.1 e1 r hf hw
      rw [wpIn_wide] at h0
      obtain ⟨ex, s1⟩ := x1
      have straight : (∀ l, ex ≠ .goto l) → x = (ex, s1) → (Code.scope c).wp P (Post E Z n lo d0 K x) a w := fun hne hx => by
        subst hx
        refine wp_scope_straight (wp_mono h0 (fun e a' w' hp => ?_))
        cases e with
        | goto l =>
          obtain ⟨β', r', hf', hw', hx⟩ := hp
          cases ex <;> first | exact hx.elim | exact absurd rfl (hne _)
        | _ => exact hp
      cases ex with
      | goto l =>
        simp only at e2
        split at e2
        · rename_i rest hfl
          obtain ⟨res, e3, e4⟩ := eval_bind e2
          simp only [Tr.eval, Option.some.injEq] at e4
          subst e4
          obtain ⟨μ, hμ⟩ := hl.2 l rest hfl
          obtain ⟨key, hkey⟩ : ∃ key, key = gotoKey l rest := ⟨_, rfl⟩
          rw [← hkey] at hμ e3 ⊢
          have hsz := findLabel_size hfl
          refine wp_scope_ix (ι := List V × List Ob) (fun i a w => (E.L m key i.1 i.2).eval = some res ∧ ∃ β, Rel E Z n lo d0 (mkSt (E.keep key) i.1 i.2) β a w ∧ K (hOf i.2) β w) (fun i => μ i.1 i.2) hfl (wp_mono h0 (fun e a' w' hp => ?_)) (fun i a' w' hi => ?_)
          · obtain ⟨β', r', hf', hw', hx⟩ := hp
            cases e with
            | goto l' =>
              have hll : l = l' := hx
              exact ⟨hll.symm, (canonV (E.keep key) m s1, canonO (E.keep key) m s1), e3, _, canon_sound _ r', canon_wk (s := s1) hK _ hw'⟩
            | _ => exact hx.elim
          · obtain ⟨hL, β1, r1, hw1⟩ := hi
            obtain ⟨vs, os⟩ := i
            obtain ⟨hng, y, hy1, hy2⟩ := hμ vs os res hL
            unfold gotoStep at hy1
            obtain ⟨x2, f1, f2⟩ := eval_bind hy1
            have h3 := exec_sound hT hC hI rest d0 Fence.wide kn m B K (.inl rfl) hK hlo _ x2 β1 a' w' (findLabel_codeOk hfl hc) (fun h => by rcases h with h | h; exact absurd rfl h; exact absurd h hgd) (findLabel_loops hfl hl.1) f1 r1 (mkSt_fresh _ _ _) hw1
            rw [wpIn_wide] at h3
            refine wp_mono h3 (fun e a2 w2 hp => ?_)
            obtain ⟨β2, r2, hf2, hw2, hx2⟩ := hp
            obtain ⟨ex2, s2⟩ := x2
            have out : ∀ ex', y = (ex', canonV (E.keepX key) m s2, canonO (E.keepX key) m s2) → y = res → (∀ l', e ≠ .goto l') → ExOk E Z (mkSt (E.keepX key) (canonV (E.keepX key) m s2) (canonO (E.keepX key) m s2)) (reL β2 (canonIds (E.keepX key) m s2)) w2 ex' e →
                Exit.jump l (fun a' w' => ∃ j : List V × List Ob, ((E.L m key j.1 j.2).eval = some res ∧ ∃ β, Rel E Z n lo d0 (mkSt (E.keep key) j.1 j.2) β a' w' ∧ K (hOf j.2) β w') ∧ μ j.1 j.2 < μ vs os) (Post E Z n lo d0 K (res.1, mkSt (E.keepX key) res.2.1 res.2.2)) e a2 w2 := by
              intro ex' q1 q2 hne q3
              have : Post E Z n lo d0 K (res.1, mkSt (E.keepX key) res.2.1 res.2.2) e a2 w2 := by
                rw [← q2, q1]
                exact ⟨_, canon_sound _ r2, mkSt_fresh _ _ _, canon_wk (s := s2) hK _ hw2, q3⟩
              cases e with
              | goto l' => exact absurd rfl (hne l')
              | _ => exact this
            cases ex2 with
            | goto l2 =>
              simp only [Tr.eval, Option.some.injEq] at f2
              subst f2
              cases e with
              | goto l' =>
                have hll : l2 = l' := hx2
                obtain ⟨g1, g2, g3⟩ := hy2
                exact ⟨hll ▸ g1, (canonV (E.keep key) m s2, canonO (E.keep key) m s2), ⟨g3, _, canon_sound _ r2, canon_wk (s := s2) hK _ hw2⟩, g2⟩
              | _ => exact hx2.elim
            | normal =>
              simp only [Tr.eval, Option.some.injEq] at f2
              subst f2
              cases e with
              | normal => exact out .normal rfl hy2 (by simp) trivial
              | _ => exact hx2.elim
            | exit i =>
              simp only [Tr.eval, Option.some.injEq] at f2
              subst f2
              cases e with
              | exit j => exact out (.exit i) rfl hy2 (by simp) hx2
              | _ => exact hx2.elim
            | ret =>
              simp only [Tr.eval, Option.some.injEq] at f2
              subst f2
              cases e with
              | ret => exact out .ret rfl hy2 (by simp) trivial
              | _ => exact hx2.elim
            | panic v =>
              simp only [Tr.eval, Option.some.injEq] at f2
              subst f2
              cases e with
              | panic ch =>
                obtain ⟨k1, z, k2, k3⟩ := hx2
                refine out (.panic v) rfl hy2 (by simp) ⟨k1, z, k2, ?_⟩
                exact Rep.kept (Kept.less (reOwn (fun b hb => .inl hb))) _ _ _ _ (fun _ _ h => h) k3
              | _ => exact hx2.elim
        · simp [Tr.eval] at e2
      | normal => simp only [Tr.eval, Option.some.injEq] at e2; exact straight (by simp) e2.symm
      | exit i => simp only [Tr.eval, Option.some.injEq] at e2; exact straight (by simp) e2.symm
      | ret => simp only [Tr.eval, Option.some.injEq] at e2; exact straight (by simp) e2.symm
      | panic v => simp only [Tr.eval, Option.some.injEq] at e2; exact straight (by simp) e2.symm
    · have := hg (.inl hw1)
      cases this
  | .exit id, d0, F, kn, m, B, K, hF, hK, hlo, s, x, β, a, w, _, _, _, he, r, hf, hw => by
    simp only [exec, Tr.eval, Option.some.injEq] at he
    subst he
    exact wpIn_exit ⟨β, r, hf, hw, rfl⟩
  | .ret, d0, F, kn, m, B, K, hF, hK, hlo, s, x, β, a, w, _, _, _, he, r, hf, hw => by
    simp only [exec, Tr.eval, Option.some.injEq] at he
    subst he
    exact wpIn_ret ⟨β, r, hf, hw, trivial⟩
  | .region id ops draw, d0, F, kn, m, B, K, hF, hK, hlo, s, x, β, a, w, hc, _, _, he, r, hf, hw => region_sound (free_of hF) hT hC (by rw [codeOk, Bool.and_eq_true] at hc; exact hc.1) (fun hd => by subst hd; rw [codeOk, Bool.and_eq_true] at hc; simpa using hc.2) he hK r hf hw
  | .seq c d, d0, F, kn, m, B, K, hF, hK, hlo, s, x, β, a, w, hc, hg, hl, he, r, hf, hw => by
    rw [codeOk, Bool.and_eq_true] at hc
    rw [exec] at he
    obtain ⟨x1, e1, e2⟩ := eval_bind he
    refine wpIn_seq (wpIn_mono (exec_sound hT hC hI c d0 _ kn _ _ _ hF hK hlo s x1 β a w hc.1 (fl_l hg) hl.1 e1 r hf hw) (fun e a' w' hp => ?_))
    obtain ⟨β', r', hf', hw', hx⟩ := hp
    obtain ⟨ex, s1⟩ := x1
    cases ex with
    | normal =>
      cases e with
      | normal => exact exec_sound hT hC hI d d0 _ kn _ _ _ hF hK hlo s1 x β' a' w' hc.2 (fl_r hg) hl.2 e2 r' hf' hw'
      | _ => exact hx.elim
    | exit i =>
      simp only [Tr.eval, Option.some.injEq] at e2
      subst e2
      cases e with
      | exit j => exact ⟨β', r', hf', hw', hx⟩
      | _ => exact hx.elim
    | ret =>
      simp only [Tr.eval, Option.some.injEq] at e2
      subst e2
      cases e with
      | ret => exact ⟨β', r', hf', hw', hx⟩
      | _ => exact hx.elim
    | panic v =>
      simp only [Tr.eval, Option.some.injEq] at e2
      subst e2
      cases e with
      | panic ch => exact ⟨β', r', hf', hw', hx⟩
      | _ => exact hx.elim
    | goto l =>
      simp only [Tr.eval, Option.some.injEq] at e2
      subst e2
      cases e with
      | goto j => exact ⟨β', r', hf', hw', hx⟩
      | _ => exact hx.elim
  | .cond cn c d, d0, F, kn, m, B, K, hF, hK, hlo, s, x, β, a, w, hc, hg, hl, he, r, hf, hw => by
    rw [codeOk, Bool.and_eq_true] at hc
    have hv := r.slots.ev r.cx.glob cn
    have fin : ∀ t, ev E s.slot cn = .bool t → (exec E m (if t then c else d) s).eval = some x → (Code.cond cn c d).wpIn F kn P (Post E Z n lo d0 K x) a w := fun t ht e2 => by
      rw [ht] at hv
      refine wpIn_cond hv ?_
      cases t with
      | true => exact exec_sound hT hC hI c d0 _ kn _ _ _ hF hK hlo s x β a w hc.1 (fl_l hg) hl.1 e2 r hf hw
      | false => exact exec_sound hT hC hI d d0 _ kn _ _ _ hF hK hlo s x β a w hc.2 (fl_r hg) hl.2 e2 r hf hw
    cases cn with
    | tmp t =>
      simp only [exec] at he
      split at he
      · rename_i b hb
        have hb' : s.slot t = .bool b := hb
        refine fin b hb ?_
        cases b with
        | true =>
          simp only [Tr.eval] at he
          rw [upd_eq hb'] at he
          exact he
        | false =>
          simp only [Tr.eval] at he
          rw [upd_eq hb'] at he
          exact he
      · simp [Tr.eval] at he
    | _ =>
      simp only [exec] at he
      split at he
      · rename_i b hb
        refine fin b hb ?_
        cases b <;> (simp only [Tr.eval] at he; exact he)
      · simp [Tr.eval] at he
  | .block id c, d0, F, kn, m, B, K, hF, hK, hlo, s, x, β, a, w, hc, hg, hl, he, r, hf, hw => by
    rw [codeOk] at hc
    rw [exec] at he
    obtain ⟨x1, e1, e2⟩ := eval_bind he
    refine wpIn_block (wpIn_mono (exec_sound hT hC hI c d0 _ kn _ _ _ hF hK hlo s x1 β a w hc (fun h => hg h) hl e1 r hf hw) (fun e a' w' hp => ?_))
    obtain ⟨β', r', hf', hw', hx⟩ := hp
    obtain ⟨ex, s1⟩ := x1
    cases ex with
    | normal =>
      simp only [Tr.eval, Option.some.injEq] at e2
      subst e2
      cases e with
      | normal => exact ⟨β', r', hf', hw', hx⟩
      | _ => exact hx.elim
    | exit i =>
      cases e with
      | exit j =>
        have hij : i = j := hx
        subst hij
        simp only at e2
        show if i = id then _ else _
        split at e2
        · rename_i hb
          simp only [Tr.eval, Option.some.injEq] at e2
          subst e2
          rw [if_pos (nat_of_beq hb)]
          exact ⟨β', r', hf', hw', trivial⟩
        · rename_i hb
          simp only [Tr.eval, Option.some.injEq] at e2
          subst e2
          rw [if_neg (fun he => by rw [he, show Nat.beq id id = true from Nat.beq_refl id] at hb; cases hb)]
          exact ⟨β', r', hf', hw', rfl⟩
      | _ => exact hx.elim
    | ret =>
      simp only [Tr.eval, Option.some.injEq] at e2
      subst e2
      cases e with
      | ret => exact ⟨β', r', hf', hw', hx⟩
      | _ => exact hx.elim
    | panic v =>
      simp only [Tr.eval, Option.some.injEq] at e2
      subst e2
      cases e with
      | panic ch => exact ⟨β', r', hf', hw', hx⟩
      | _ => exact hx.elim
    | goto l =>
      simp only [Tr.eval, Option.some.injEq] at e2
      subst e2
      cases e with
      | goto j => exact ⟨β', r', hf', hw', hx⟩
      | _ => exact hx.elim
  | .loop b, d0, F, kn, m, B, K, hF, hK, hlo, s, x, β, a, w, hc, hg, hl, he, r, hf, hw => by
    rw [codeOk] at hc
    obtain ⟨⟨μ, hμ⟩, hlb⟩ := hl
    rw [exec] at he
    obtain ⟨res, e1, e2⟩ := eval_bind he
    simp only [Tr.eval, Option.some.injEq] at e2
    subst e2
    refine wp_loop_ix (ι := List V × List Ob) (fun i a w => (E.L m (loopKey b) i.1 i.2).eval = some res ∧ ∃ β, Rel E Z n lo d0 (mkSt (E.keep (loopKey b)) i.1 i.2) β a w ∧ K (hOf i.2) β w) (fun i => μ i.1 i.2)
      (canonV (E.keep (loopKey b)) m s, canonO (E.keep (loopKey b)) m s) ⟨e1, _, canon_sound _ r, canon_wk hK _ hw⟩ (fun i a w ⟨hL, β, r, hw⟩ => ?_)
    obtain ⟨vs, os⟩ := i
    obtain ⟨y, hy1, hy2⟩ := hμ vs os res hL
    unfold loopStep at hy1
    obtain ⟨x1, f1, f2⟩ := eval_bind hy1
    refine wpIn_mono (exec_sound hT hC hI b d0 _ kn _ _ _ hF hK hlo _ x1 β a w hc (fun h => hg h) hlb f1 r (mkSt_fresh _ _ _) hw) (fun e a' w' hp => ?_)
    obtain ⟨β', r', hf', hw', hx⟩ := hp
    obtain ⟨ex, s1⟩ := x1
    have out : ∀ ex', y = (ex', canonV (E.keepX (loopKey b)) m s1, canonO (E.keepX (loopKey b)) m s1) → y = res → ExOk E Z (mkSt (E.keepX (loopKey b)) (canonV (E.keepX (loopKey b)) m s1) (canonO (E.keepX (loopKey b)) m s1)) (reL β' (canonIds (E.keepX (loopKey b)) m s1)) w' ex' e →
        Post E Z n lo d0 K (res.1, mkSt (E.keepX (loopKey b)) res.2.1 res.2.2) e a' w' := by
      intro ex' h1 h2 h3
      rw [← h2, h1]
      exact ⟨_, canon_sound _ r', mkSt_fresh _ _ _, canon_wk hK _ hw', h3⟩
    cases ex with
    | normal =>
      simp only [Tr.eval, Option.some.injEq] at f2
      subst f2
      cases e with
      | normal =>
        obtain ⟨g1, g2⟩ := hy2
        exact ⟨(canonV (E.keep (loopKey b)) m s1, canonO (E.keep (loopKey b)) m s1), ⟨g2, _, canon_sound _ r', canon_wk hK _ hw'⟩, g1⟩
      | _ => exact hx.elim
    | exit i =>
      simp only [Tr.eval, Option.some.injEq] at f2
      subst f2
      cases e with
      | exit j => exact out (.exit i) rfl hy2 hx
      | _ => exact hx.elim
    | ret =>
      simp only [Tr.eval, Option.some.injEq] at f2
      subst f2
      cases e with
      | ret => exact out .ret rfl hy2 hx
      | _ => exact hx.elim
    | panic v =>
      simp only [Tr.eval, Option.some.injEq] at f2
      subst f2
      cases e with
      | panic ch =>
        obtain ⟨k1, z, k2, k3⟩ := hx
        refine out (.panic v) rfl hy2 ⟨k1, z, k2, ?_⟩
        exact Rep.kept (Kept.less (reOwn (fun b hb => .inl hb))) _ _ _ _ (fun _ _ h => h) k3
      | _ => exact hx.elim
    | goto l =>
      simp only [Tr.eval, Option.some.injEq] at f2
      subst f2
      cases e with
      | goto j => exact out (.goto l) rfl hy2 hx
      | _ => exact hx.elim
  | .goto l, d0, F, kn, m, B, K, hF, hK, hlo, s, x, β, a, w, _, _, _, he, r, hf, hw => by
    simp only [exec, Tr.eval, Option.some.injEq] at he
    subst he
    exact wpIn_goto ⟨β, r, hf, hw, rfl⟩
  | .refuse l, d0, F, kn, m, B, K, hF, hK, hlo, s, x, β, a, w, _, _, _, he, _, _, _ => by simp [exec, Tr.eval] at he
  | .rangeFunc g ps assign body, d0, F, kn, m, B, K, hF, hK, hlo, s, x, β, a, w, hc, hg, hl, he, r, hf, hw => range_sound hT hC hI (exec_sound hT hC hI assign _) (exec_sound hT hC hI body _) hF hK hlo hc hg hl he r hw
termination_by c => SizeOf.sizeOf c
decreasing_by all_goals (simp only [Code.seq.sizeOf_spec, Code.cond.sizeOf_spec, Code.block.sizeOf_spec, Code.loop.sizeOf_spec, Code.scope.sizeOf_spec, Code.rangeFunc.sizeOf_spec]; omega)
end
end Go.AH

namespace Go.AH
open Go Go.RowKit

section
variable {E : Env} {P : Program} {Z : Nat → Prop} {n lo m : Nat} {d0 : Dq} {s : St} {β : Nat → Loc} {w : World} {a : Act}

/-- The loops in a text. -/
def loopsIn : Code → List Code
  | .seq a b => loopsIn a ++ loopsIn b
  | .cond _ a b => loopsIn a ++ loopsIn b
  | .block _ b => loopsIn b
  | .loop b => b :: loopsIn b
  | .scope b => loopsIn b
  | _ => []
/-- The ranges over functions in a text. -/
def rangesIn : Code → List (List Nat × Code × Code)
  | .seq a b => rangesIn a ++ rangesIn b
  | .cond _ a b => rangesIn a ++ rangesIn b
  | .block _ b => rangesIn b
  | .loop b => rangesIn b
  | .scope b => rangesIn b
  | .rangeFunc _ ps a b => [(ps.toList, a, b)]
  | _ => []
def labels : Code → List Nat
  | .seq a b => labels a ++ labels b
  | .label l => [l]
  | _ => []
theorem labels_find {l : Nat} : ∀ {c rest : Code}, findLabel c l = some rest → l ∈ labels c
  | .seq a b, rest, h => by
    unfold findLabel at h
    rw [labels, List.mem_append]
    split at h
    · rename_i r hr
      exact .inl (labels_find hr)
    · exact .inr (labels_find h)
  | .label l', rest, h => by
    unfold findLabel at h
    split at h
    · rename_i hq
      have : l' = l := by simpa using hq
      simp [labels, this]
    · cases h
  | .skip, _, h => by simp [findLabel] at h
  | .region .., _, h => by simp [findLabel] at h
  | .cond .., _, h => by simp [findLabel] at h
  | .block .., _, h => by simp [findLabel] at h
  | .loop .., _, h => by simp [findLabel] at h
  | .scope .., _, h => by simp [findLabel] at h
  | .rangeFunc .., _, h => by simp [findLabel] at h
  | .exit .., _, h => by simp [findLabel] at h
  | .goto .., _, h => by simp [findLabel] at h
  | .ret, _, h => by simp [findLabel] at h
  | .refuse .., _, h => by simp [findLabel] at h
/-- No jumps. -/
def straight : Code → Bool
  | .seq a b => straight a && straight b
  | .cond _ a b => straight a && straight b
  | .block _ b => straight b
  | .loop b => straight b
  | .scope b => (labels b).isEmpty && straight b
  | _ => true
theorem loops_ranges : ∀ (c : Code), straight c = true → (∀ b ∈ loopsIn c, LoopLaw E m b) → (∀ p ∈ rangesIn c, RangeLaw E m p.1 p.2.1 p.2.2 ∧ ∀ m', Loops E m' p.2.1 ∧ Loops E m' p.2.2) → Loops E m c
  | .seq a b, hs, h, hr => ⟨loops_ranges a (Bool.and_eq_true _ _ ▸ hs).1 (fun x hx => h x (List.mem_append.2 (.inl hx))) (fun x hx => hr x (List.mem_append.2 (.inl hx))), loops_ranges b (Bool.and_eq_true _ _ ▸ hs).2 (fun x hx => h x (List.mem_append.2 (.inr hx))) (fun x hx => hr x (List.mem_append.2 (.inr hx)))⟩
  | .cond _ a b, hs, h, hr => ⟨loops_ranges a (Bool.and_eq_true _ _ ▸ hs).1 (fun x hx => h x (List.mem_append.2 (.inl hx))) (fun x hx => hr x (List.mem_append.2 (.inl hx))), loops_ranges b (Bool.and_eq_true _ _ ▸ hs).2 (fun x hx => h x (List.mem_append.2 (.inr hx))) (fun x hx => hr x (List.mem_append.2 (.inr hx)))⟩
  | .block _ b, hs, h, hr => loops_ranges b hs h hr
  | .loop b, hs, h, hr => ⟨h b (by simp [loopsIn]), loops_ranges b hs (fun x hx => h x (by simp [loopsIn, hx])) hr⟩
  | .skip, _, _, _ => trivial
  | .region _ _ _, _, _, _ => trivial
  | .rangeFunc _ ps a b, _, _, hr => hr (ps.toList, a, b) (by simp [rangesIn])
  | .exit _, _, _, _ => trivial
  | .scope b, hs, h, hr => by
    unfold straight at hs
    rw [Bool.and_eq_true] at hs
    refine ⟨loops_ranges b hs.2 h hr, fun l rest hl => ?_⟩
    have := labels_find hl
    rw [List.isEmpty_iff.1 hs.1] at this
    cases this
  | .label _, _, _, _ => trivial
  | .goto _, _, _, _ => trivial
  | .ret, _, _, _ => trivial
  | .refuse _, _, _, _ => trivial
theorem loops_of (c : Code) (h : ∀ b ∈ loopsIn c, LoopLaw E m b) (hr : rangesIn c = [] := by rfl) (hs : straight c = true := by rfl) : Loops E m c := loops_ranges c hs h (by rw [hr]; simp)
theorem loops_none {c : Code} (h : loopsIn c = []) (hr : rangesIn c = [] := by rfl) (hs : straight c = true := by rfl) : Loops E m c := loops_of c (by rw [h]; simp) hr hs
theorem loops_one {c b : Code} (h : loopsIn c = [b]) (hb : LoopLaw E m b) (hr : rangesIn c = [] := by rfl) (hs : straight c = true := by rfl) : Loops E m c := loops_of c (by rw [h]; simpa using hb) hr hs

theorem dstOk_mono {k n : Nat} (hk : k ≤ n) {ops : Array Oper} (h : dstOk k ops = true) : dstOk n ops = true := by
  unfold dstOk at *
  rw [Bool.and_eq_true] at *
  refine ⟨?_, h.2⟩
  replace h := h.1
  rw [List.all_eq_true] at *
  intro o ho
  have h1 := h o ho
  split
  · rename_i d hd
    rw [hd] at h1
    exact Nat.ble_eq_true_of_le (Nat.le_trans (Nat.le_of_ble_eq_true h1) hk)
  · rfl
theorem codeOk_mono {mode : FuncId → List Bool} {dyn : Nat → Bool} {k n : Nat} (hk : k ≤ n) : ∀ (c : Code), codeOk mode dyn k c = true → codeOk mode dyn n c = true
  | .region _ ops _, h => by
    rw [codeOk, Bool.and_eq_true] at *
    exact ⟨dstOk_mono hk h.1, h.2⟩
  | .seq a b, h => by
    rw [codeOk, Bool.and_eq_true] at *
    exact ⟨codeOk_mono hk a h.1, codeOk_mono hk b h.2⟩
  | .cond _ a b, h => by
    rw [codeOk, Bool.and_eq_true] at *
    exact ⟨codeOk_mono hk a h.1, codeOk_mono hk b h.2⟩
  | .block _ b, h => codeOk_mono hk b h
  | .loop b, h => codeOk_mono hk b h
  | .skip, _ => rfl
  | .rangeFunc _ ps a b, h => by
    simp only [codeOk, Bool.and_eq_true] at *
    refine ⟨⟨?_, codeOk_mono hk a h.1.2.1, codeOk_mono hk b h.1.2.2⟩, h.2⟩
    rw [List.all_eq_true]
    intro p hp
    exact Nat.ble_eq_true_of_le (Nat.le_trans (Nat.le_of_ble_eq_true (List.all_eq_true.1 h.1.1 p hp)) hk)
  | .exit _, _ => rfl
  | .scope b, h => codeOk_mono hk b h
  | .label _, _ => rfl
  | .goto _, _ => rfl
  | .ret, _ => rfl
  | .refuse _, _ => rfl

/-- What a result variable holds. -/
def resSem (tmps : Array Value) : ResultVar → Sem Value
  | .tmp t => pure (tmps.getD t undef)
  | .cell a t => do loadVar t (← asAddr (tmps.getD a undef))
theorem res_one (hT : TyOk P E.ty) (r : Rel E Z n lo d0 s β a w) {x : ResultVar} {v : V} (he : resOf E s x = some v) : ∃ y, (resSem a.tmps x).run P w = .ok y w ∧ Rep E.ty w (Own Z s.ob β) v (RefRep E.ty s.ob β) y := by
  cases x with
  | tmp t =>
    simp only [resOf, Option.some.injEq] at he
    subst he
    exact ⟨_, rfl, r.slots t⟩
  | cell t ty =>
    simp only [resOf] at he
    split at he
    · rename_i cs hcs
      split at he
      · rename_i hc
        rw [Bool.and_eq_true] at hc
        obtain ⟨b, o, l, hx, hl, hr⟩ := cellsAt_sound hT r.cx (fun i => .inr rfl) (r.slots t) hcs
        have hle := Nat.le_of_ble_eq_true hc.2
        have row := hT.row hc.1
        have hlen := hr.length
        have hx' : a.tmps.getD t undef = .pointer (some ⟨b, o, none⟩) := hx
        cases ha : (E.ty ty).agg with
        | true =>
          rw [ha] at he
          simp only [Option.some.injEq] at he
          subst he
          have hl2 : (l.take (E.ty ty).size).length = (E.ty ty).size := by simp; omega
          have hc2 := run_loadCells_list (P := P) w ⟨b, o, none⟩ (l.take (E.ty ty).size) (fun j v hj => by rw [Addr.add_lit]; exact hl.take _ j v hj)
          rw [hl2] at hc2
          refine ⟨.agg (l.take (E.ty ty).size).toArray, ?_, ⟨_, rfl, by simpa using hr.take _⟩⟩
          simp [resSem, hx', asAddr, loadVar, row.agg, ha, row.size, hc2]
        | false =>
          rw [ha] at he
          simp only at he
          cases cs with
          | nil => cases he
          | cons u cs =>
            simp at he
            subst he
            obtain ⟨y, rest, rfl, h1, _⟩ := hr
            have := hl 0 y rfl
            rw [Nat.add_zero] at this
            refine ⟨y, ?_, h1⟩
            simp [resSem, hx', asAddr, loadVar, row.agg, ha, this]
      · cases he
    · cases he
theorem res_list (hT : TyOk P E.ty) (r : Rel E Z n lo d0 s β a w) : ∀ (l : List ResultVar) (vs : List V), allSome (l.map (resOf E s)) = some vs → ∃ ys, (l.mapM (resSem a.tmps)).run P w = .ok ys w ∧ RepL E.ty w (Own Z s.ob β) vs (RefRep E.ty s.ob β) ys
  | [], vs, h => by
    simp [allSome] at h
    subst h
    exact ⟨[], rfl, rfl⟩
  | x :: l, vs, h => by
    rw [List.map_cons] at h
    cases hx : resOf E s x with
    | none => rw [hx] at h; cases h
    | some v =>
      rw [hx] at h
      simp only [allSome] at h
      cases hl : allSome (l.map (resOf E s)) with
      | none => rw [hl] at h; cases h
      | some us =>
        rw [hl] at h
        simp at h
        subst h
        obtain ⟨y, h1, h2⟩ := res_one hT r hx
        obtain ⟨ys, h3, h4⟩ := res_list hT r l us hl
        exact ⟨y :: ys, by simp [List.mapM_cons, h1, h3], ⟨y, ys, rfl, h2, h4⟩⟩
def packRes : List V → V
  | [v] => v
  | vs => .tup vs
theorem res_sound (hT : TyOk P E.ty) (r : Rel E Z n lo d0 s β a w) {fn : Func} {vs : List V} (h : allSome (fn.results.toList.map (resOf E s)) = some vs) :
    ∃ x, (results fn a.tmps).run P w = .ok x w ∧ Rep E.ty w (Own Z s.ob β) (packRes vs) (RefRep E.ty s.ob β) x := by
  obtain ⟨ys, h1, h2⟩ := res_list hT r _ _ h
  have h3 : (fn.results.mapM (resSem a.tmps)).run P w = .ok ys.toArray w := by
    rw [Array.mapM_eq_mapM_toList]
    simp [h1]
  have h4 : results fn a.tmps = (do
      let vs ← fn.results.mapM (resSem a.tmps)
      pure (if h : vs.size = 1 then vs[0] else .tuple vs)) := by
    unfold results
    congr 1
  rw [h4]
  simp only [Sem.run_bind, h3, Result.andThen_ok, Sem.run_pure]
  refine ⟨_, rfl, ?_⟩
  have hl := h2.length
  match vs, ys, h2, hl with
  | [v], [y], h2, _ =>
    obtain ⟨y', r', e, h5, _⟩ := h2
    simp only [List.cons.injEq] at e
    obtain ⟨rfl, rfl⟩ := e
    exact h5
  | [], [], h2, _ => exact ⟨_, rfl, h2⟩
  | v :: u :: vs, y :: z :: ys, h2, _ => exact ⟨_, rfl, h2⟩

abbrev Model := List V → List Ob → Tr Out
/-- The models that are there. -/
def lookM : List (FuncId × Model) → FuncId → Model
  | [], _ => fun _ _ => .fail
  | (g, m) :: r, f => (match Nat.beq f g with | true => m | false => lookM r f)
theorem lookM_holds {T : TypeId → Ty} {G : Nat → V} : ∀ (l : List (FuncId × Model)), (∀ p ∈ l, Holds T G P p.1 p.2) → ∀ g, Holds T G P g (lookM l g)
  | [], _, g => fun args objs out h => by simp [lookM, Tr.eval] at h
  | (f, m) :: r, h, g => by
    unfold lookM
    split
    · rename_i hb
      rw [nat_of_beq hb]
      exact h (f, m) (by simp)
    · exact lookM_holds r (fun p hp => h p (by simp [hp])) g
theorem genE_zero (i g : Nat) (hi : i < m) (h : genE m i g = 0) : g = 0 := by
  unfold genE at h
  have : Nat.blt i m = true := Nat.ble_eq_true_of_le hi
  rw [this] at h
  exact h
theorem begin_slot : ∀ (args : List V) (t : Nat), begin0.hOfV args t = args.getD t .top
  | [], t => by simp [begin0.hOfV]
  | v :: r, 0 => by simp [begin0.hOfV]
  | v :: r, t + 1 => by simp [begin0.hOfV, begin_slot r t]
theorem leave_marks {fn : Func} {tmps : Array Value} {R : Ending → World → Prop} {u : FrameMode} (hu : u ≠ .run) : ∀ (l : List Nat) (w : World), l.Nodup → (∀ D ∈ l, lo ≤ D ∧ w.heap[D]? = some (.deferred (some []))) →
    (∀ w', Quiet lo w w' → LeavesInM Fence.wide 0 P fn tmps R d0.ds u w') → LeavesInM Fence.wide 0 P fn tmps R (l.map (fun D => ({ target := .collected D, args := #[] } : Deferred)) ++ d0.ds) u w
  | [], w, _, _, h => h w Quiet.refl
  | D :: l, w, hn, hl, h => by
    obtain ⟨h1, h2⟩ := hl D (by simp)
    have hn2 := List.nodup_cons.1 hn
    refine ⟨hu, .inl ⟨D, _, rfl, run_takeDeferred h2, leave_marks hu l _ hn2.2 (fun D' hD' => ?_) (fun w' q => h w' ((Quiet.putD h2 h1 _).trans q))⟩⟩
    have hne : D' ≠ D := fun e => hn2.1 (e ▸ hD')
    exact ⟨(hl D' (by simp [hD'])).1, (World.putObj_heap_other hne).trans (hl D' (by simp [hD'])).2⟩
/-- A function's results. -/
theorem finish_sound (hT : TyOk P E.ty) {objs : List Ob} {fn : Func} {own : Bool} {out : Out} (hnew : New (hOf objs)) {s1 : St} {β' : Nat → Loc} {w' : World} (r' : Rel E Z n lo d0 s1 β' a w') (hw' : Wk objs.length (hOf objs) β w s1.ob β' w')
    (hfin : (finish E objs.length own fn s1).eval = some out) : ∃ v, (results fn a.tmps).run P w' = .ok v w' ∧ Ends E.ty E.glob Z objs β w out (.returned v) w' := by
  have cxE : ∀ l, Cx E.ty E.glob Z (hOf (reO s1.ob (genE objs.length) (exportIds objs.length s1 l))) (reL β' (exportIds objs.length s1 l)) w' := fun l =>
    r'.cx.re (reach_nodup _ _) (fun b hb => .inl hb) r'.cx.zlt (fun i _ mi => r'.cx.zown i mi)
  have wkE : ∀ l, Wk objs.length (hOf objs) β w (hOf (reO s1.ob (genE objs.length) (exportIds objs.length s1 l))) (reL β' (exportIds objs.length s1 l)) w' := fun l =>
    hw'.re hnew (fun i hi => reach_range _ _ _ hi) (fun i g hi h => genE_zero i g hi h)
  have hO : ∀ l b, Own Z (reH s1.ob (genE objs.length) (exportIds objs.length s1 l)) (reL β' (exportIds objs.length s1 l)) b → Own Z s1.ob β' b := fun l => reOwn (fun b hb => .inl hb)
  unfold finish at hfin
  cases hvs : allSome (fn.results.toList.map (resOf E s1)) with
  | none => rw [hvs] at hfin; simp [Tr.eval] at hfin
  | some vs =>
    rw [hvs] at hfin
    obtain ⟨y, hy1, hy2⟩ := res_sound hT r' hvs
    refine ⟨y, hy1, ?_⟩
    have hfin2 : (leave E objs.length own s1 (packRes vs)).eval = some out := by
      match vs, hfin with
      | [], h => exact h
      | [v], h => exact h
      | _ :: _ :: _, h => exact h
    unfold leave at hfin2
    cases own with
    | true =>
      simp only [Tr.eval, Option.some.injEq] at hfin2
      exact ⟨_, _, _, hfin2.symm, cxE _, wkE _, hy2.re (hO _)⟩
    | false =>
      simp only at hfin2
      split at hfin2
      · rename_i hap
        simp only [Tr.eval, Option.some.injEq] at hfin2
        rw [V.refsF_eq] at hap
        unfold apart at hap
        rw [Bool.and_eq_true, List.all_eq_true, List.all_eq_true] at hap
        refine ⟨_, _, _, hfin2.symm, cxE _, wkE _, ?_⟩
        refine toTree_sound hT r'.cx (fun i => .inr rfl) (hO []) (S := reach s1.ob (packRes vs).refs) (fun i hi j hj => ?_) (fun i hi ha hn ho => ?_) _ _ _ _ (fun i hi => reach_mem _ _ hi) hy2
        · have := hap.2 i hi
          simp only [Bool.and_eq_true, List.all_eq_true] at this
          simpa using this.2 j hj
        · have h7 := hap.2 i hi
          simp only [Bool.and_eq_true, Bool.not_eq_true'] at h7
          have hni : i ∉ exportIds objs.length s1 [] := by simpa using h7.1.2
          by_cases hrw : (s1.ob i).rw = true
          · have mi : Mine s1.ob β' i := ⟨hrw, hn⟩
            rcases ho with hz | ⟨k, mk, e⟩
            · exact r'.cx.zown i mi hz
            · obtain ⟨j, hj, mj, ej⟩ := reMine mk
              exact r'.cx.inj j i (fun e' => hni (by rw [← e']; exact List.mem_of_getElem? hj)) mj mi (ej.symm.trans e)
          · exact r'.cx.ro i ha (by simpa using hrw) hn (hO _ _ ho)
      · simp [Tr.eval] at hfin2
theorem fn_sound (hT : TyOk P E.ty) (hC : ∀ g, Holds E.ty E.glob P g (E.C g)) (hI : ItersOk E P := by exact itersOk_none (fun _ _ => rfl)) {f : FuncId} {fn : Func} {c : Code} (hf : P.funcs[f]? = some fn) (hname : (fn.name == "runtime.NumGoroutine") = false) (hb : fn.body = some c) (hcode : codeOk E.mode E.dyn fn.ntmps c = true)
    (own : Bool) (C : List V → List Ob → Tr Out) (hlaw : ∀ args objs out, (C args objs).eval = some out → Loops E objs.length c ∧ (runF E own fn args objs).eval = some out) : Holds E.ty E.glob P f C := by
  intro args objs out hout hgen Z β w cargs cx hargs
  obtain ⟨hloops, hrun⟩ := hlaw args objs out hout
  have h1 : fn.name ≠ "runtime.NumGoroutine" := by simpa using hname
  refine .inl ⟨by simp [callFunc, hf, h1, hb], callsIn_wide.1 (callsIn_of_wp_marks (n := 0) hf hb trivial ?_)⟩
  unfold runF at hrun
  rw [hb] at hrun
  simp only at hrun
  obtain ⟨x, e1, e2⟩ := eval_bind hrun
  have hnew : New (hOf objs) := by
    intro i ro g t vs hq
    rw [hOf_get] at hq
    cases ho : objs[i]? with
    | none => rw [ho] at hq; cases hq
    | some o =>
      rw [ho] at hq
      have := hgen o (List.mem_of_getElem? ho)
      simp only [Option.getD_some] at hq
      rw [hq] at this
      exact this
  have hlen := hargs.length
  have r0 : Rel E Z (cargs ++ Array.replicate (fn.ntmps - cargs.size) undef).size w.heap.size ⟨true, []⟩ (begin0 args objs) β { tmps := cargs ++ Array.replicate (fn.ntmps - cargs.size) undef, defers := [] } w := by
    refine ⟨cx, fun t => ?_, rfl, Marks.nil Dq.nil_ok⟩
    show Rep _ _ _ (begin0.hOfV args t) _ _
    rw [begin_slot]
    by_cases ht : t < args.length
    · have h2 : args[t]? = some args[t] := List.getElem?_eq_getElem ht
      obtain ⟨y, h3, h4⟩ := RepL.get t _ hargs h2
      have h5 : (cargs ++ Array.replicate (fn.ntmps - cargs.size) undef).getD t undef = y := by
        have h6 : t < cargs.size := by simp at hlen; omega
        rw [Array.getD_eq_getD_getElem?, Array.getElem?_append_left h6]
        have : cargs[t]? = some y := by simpa using h3
        rw [this]; rfl
      show Rep _ _ _ _ _ ((cargs ++ Array.replicate (fn.ntmps - cargs.size) undef).getD t undef)
      rw [h5, List.getD_eq_getElem?_getD, h2]
      exact h4
    · rw [List.getD_eq_getElem?_getD, List.getElem?_eq_none (by omega)]
      exact trivial
  have hfresh : Fresh (begin0 args objs) := fun i hi => by
    show hOf objs i = .dead
    rw [hOf_get, List.getElem?_eq_none hi]
    rfl
  refine wpIn_mono (exec_sound hT hC hI c ⟨true, []⟩ Fence.wide 0 _ _ _ (.inl rfl) (Wk.kok (m := objs.length) (β0 := β) (w0 := w) hnew) (Nat.le_refl _) _ x β _ w (codeOk_mono (by simp; omega) c hcode) (fun h => by rcases h with h | h; exact absurd rfl h; cases h) hloops e1 r0 hfresh Wk.refl) (fun e a' w1 hp => ?_)
  obtain ⟨β', r1, hf', hw1, hx⟩ := hp
  obtain ⟨_, lD, hlD, _, hnD, hmD⟩ := r1.defers
  have rq : ∀ w', Quiet w.heap.size w1 w' → Rel E Z (cargs ++ Array.replicate (fn.ntmps - cargs.size) undef).size w.heap.size ⟨true, []⟩ x.2 β' { a' with defers := [] } w' := fun w' q =>
    Rel.quiet ⟨r1.cx, r1.slots, r1.size, Marks.nil Dq.nil_ok⟩ q (by simp)
  suffices hs : ∀ w', Quiet w.heap.size w1 w' → (match e with | .normal | .ret => ∃ v, (results fn a'.tmps).run P w' = .ok v w' ∧ Ends E.ty E.glob Z objs β w out (.returned v) w' | .panic chain => Ends E.ty E.glob Z objs β w out (.panicked chain) w' | _ => False) by
    cases e with
    | normal =>
      show LeavesInM _ _ _ _ _ _ _ _ _
      rw [hlD]
      exact leave_marks (by simp) lD w1 hnD (fun D hD => ⟨(hmD D hD).1, (hmD D hD).2.1⟩) (fun w' q => hs w' q)
    | ret =>
      show LeavesInM _ _ _ _ _ _ _ _ _
      rw [hlD]
      exact leave_marks (by simp) lD w1 hnD (fun D hD => ⟨(hmD D hD).1, (hmD D hD).2.1⟩) (fun w' q => hs w' q)
    | panic chain =>
      show LeavesInM _ _ _ _ _ _ _ _ _
      rw [hlD]
      exact leave_marks (by simp) lD w1 hnD (fun D hD => ⟨(hmD D hD).1, (hmD D hD).2.1⟩) (fun w' q => hs w' q)
    | exit i => exact (hs w1 Quiet.refl).elim
    | goto l => exact (hs w1 Quiet.refl).elim
    | outgrown => exact (hs w1 Quiet.refl).elim
  intro w' q
  have r' := rq w' q
  have hw' := hw1.quiet q
  obtain ⟨ex, s1⟩ := x
  have cxE : ∀ l, Cx E.ty E.glob Z (hOf (reO s1.ob (genE objs.length) (exportIds objs.length s1 l))) (reL β' (exportIds objs.length s1 l)) w' := fun l =>
    r'.cx.re (reach_nodup _ _) (fun b hb => .inl hb) r'.cx.zlt (fun i _ mi => r'.cx.zown i mi)
  have wkE : ∀ l, Wk objs.length (hOf objs) β w (hOf (reO s1.ob (genE objs.length) (exportIds objs.length s1 l))) (reL β' (exportIds objs.length s1 l)) w' := fun l =>
    hw'.re hnew (fun i hi => reach_range _ _ _ hi) (fun i g hi h => genE_zero i g hi h)
  have hO : ∀ l b, Own Z (reH s1.ob (genE objs.length) (exportIds objs.length s1 l)) (reL β' (exportIds objs.length s1 l)) b → Own Z s1.ob β' b := fun l => reOwn (fun b hb => .inl hb)
  have fin : (finish E objs.length own fn s1).eval = some out → ∃ v, (results fn a'.tmps).run P w' = .ok v w' ∧ Ends E.ty E.glob Z objs β w out (.returned v) w' := finish_sound (a := { a' with defers := [] }) hT hnew r' hw'
  cases ex with
  | normal =>
    cases e with
    | normal => exact fin e2
    | _ => exact hx.elim
  | ret =>
    cases e with
    | ret => exact fin e2
    | _ => exact hx.elim
  | exit i => simp [Tr.eval] at e2
  | goto l => simp [Tr.eval] at e2
  | panic v =>
    simp only [leaveP, Tr.eval, Option.some.injEq] at e2
    cases e with
    | panic ch =>
      obtain ⟨k1, y, k2, k3⟩ := hx
      refine ⟨_, _, _, y, e2.symm, k1, k2, cxE _, wkE _, ?_⟩
      exact Rep.kept (Kept.less (hO _)) _ _ _ _ (fun _ _ h => h) (Rep.refs v _ _ y (fun _ _ _ h => h.elim) (Rep.quiet q _ _ _ k3))
    | _ => exact hx.elim
end
end Go.AH
