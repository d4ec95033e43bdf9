/- The small heap of the abstract run, and the world's blocks that it stands for. -/
import Derived.Test.YtecplbjggbelbaaAHT
namespace Go.AH
open Go Go.RowKit

structure Loc where
  b : Nat
  cap : Nat
  nil : Bool
  deriving Inhabited
def Loc.addr (l : Loc) : Option Addr := match l.nil with | true => none | false => some ⟨l.b, 0, none⟩

/-- A slice of n elements, wherever it lies. -/
def SliceLike (n : Nat) (x : Value) : Prop := ∃ a c, x = .slice a n c ∧ n ≤ c ∧ (n ≠ 0 → ∃ b o, a = some ⟨b, o, none⟩)
def RefRep (T : TypeId → Ty) (h : Nat → Ob) (β : Nat → Loc) : V → Value → Prop
  | .box i j, x => (∃ ro cs, h i = .box ro cs) ∧ x = .pointer (some ⟨(β i).b, j, none⟩)
  | .full t i g n, x => ∃ ro g' t' vs, h i = .row ro g' t' vs ∧ g ≤ g' ∧ SliceLike n x ∧ (g = g' → t' = t ∧ n = vs.length ∧ x = .slice (β i).addr n (β i).cap)
  | .sub t i g o n, x => ∃ ro g' t' vs, h i = .row ro g' t' vs ∧ g ≤ g' ∧ SliceLike n x ∧ (g = g' → t' = t ∧ o + n ≤ vs.length ∧ ∃ a, x = .slice a n ((β i).cap - o) ∧ ((β i).cap - o ≠ 0 → a = some ⟨(β i).b, o * (T t).size, none⟩))
  | .elt i g k j, x => ∃ ro g' t vs, h i = .row ro g' t vs ∧ g ≤ g' ∧ (∃ b o, x = .pointer (some ⟨b, o, none⟩)) ∧ (g = g' → k < vs.length ∧ x = .pointer (some ⟨(β i).b, k * (T t).size + j, none⟩))
  | .mref i, x => (∃ ro t ks vs, h i = .dict ro t ks vs) ∧ x = .map (some (β i).b)
  | _, _ => False
theorem RefRep.refs {T : TypeId → Ty} {h : Nat → Ob} {β : Nat → Loc} {r : V} {y : Value} (hr : RefRep T h β r y) : r.refs ≠ [] := by
  cases r <;> first | exact hr.elim | simp [V.refs]

def ObRep (T : TypeId → Ty) (w : World) (O : Nat → Prop) (R : V → Value → Prop) (l : Loc) : Ob → Prop
  | .dead => True
  | .box _ cs => l.nil = false ∧ ∃ arr e, w.heap[l.b]? = some (.cells arr e (0, 0)) ∧ RepL T w O cs R arr.toList
  | .row _ _ t vs => (T t).ok = true ∧ ((l.nil = true ∧ vs = [] ∧ l.cap = 0) ∨
      (l.nil = false ∧ ∃ cur, w.heap[l.b]? = some (.cells cur t (0, 0)) ∧ vs.length ≤ l.cap ∧ l.cap ≤ maxLen ∧ cur.size = l.cap * (T t).size ∧ RepSeq T w O vs t l.b 0))
  | .dict _ t ks vs => l.nil = false ∧ DictOk T t ks vs ∧ ∃ es clk, w.heap[l.b]? = some (.map es clk) ∧ RepL T w O ks noR (es.toList.map (·.key)) ∧ RepL T w O vs noR (es.toList.map (·.val))
theorem ObRep.lt {T : TypeId → Ty} {w : World} {O : Nat → Prop} {R : V → Value → Prop} {l : Loc} {o : Ob} (h : ObRep T w O R l o) (ha : o.alive = true) (hn : l.nil = false) : l.b < w.heap.size := by
  cases o with
  | dead => cases ha
  | box ro cs => obtain ⟨_, arr, e, h, _⟩ := h; exact (Array.getElem?_eq_some_iff.1 h).1
  | row ro g t vs =>
    obtain ⟨_, h | ⟨_, cur, h, _⟩⟩ := h
    · rw [hn] at h; cases h.1
    · exact (Array.getElem?_eq_some_iff.1 h).1
  | dict ro t ks vs => obtain ⟨_, _, es, clk, h, _⟩ := h; exact (Array.getElem?_eq_some_iff.1 h).1
theorem ObRep.kept {T : TypeId → Ty} {w w' : World} {O O' : Nat → Prop} {R R' : V → Value → Prop} {l : Loc} {o : Ob} (hk : Kept w w' O O') (hR : ∀ r y, R r y → R' r y) (hb : l.nil = false → w'.heap[l.b]? = w.heap[l.b]?) (h : ObRep T w O R l o) : ObRep T w' O' R' l o := by
  cases o with
  | dead => trivial
  | box ro cs =>
    obtain ⟨hn, arr, e, h1, h2⟩ := h
    exact ⟨hn, arr, e, (hb hn).trans h1, RepL.kept hk cs R R' _ hR h2⟩
  | row ro g t vs =>
    obtain ⟨ht, h | ⟨hn, cur, h1, h2, h3, h4, h5⟩⟩ := h
    · exact ⟨ht, .inl h⟩
    · exact ⟨ht, .inr ⟨hn, cur, (hb hn).trans h1, h2, h3, h4, RepSeq.kept hk vs t _ _ (hb hn) h5⟩⟩
  | dict ro t ks vs =>
    obtain ⟨hn, hd, es, clk, h1, h2, h3⟩ := h
    exact ⟨hn, hd, es, clk, (hb hn).trans h1, RepL.kept hk ks _ _ _ (fun _ _ h => h) h2, RepL.kept hk vs _ _ _ (fun _ _ h => h) h3⟩

/-- The object's block may be written. -/
def Mine (h : Nat → Ob) (β : Nat → Loc) (i : Nat) : Prop := (h i).rw = true ∧ (β i).nil = false
/-- The blocks that are not to be looked at by trees: those of others, and those that may be written. -/
def Own (Z : Nat → Prop) (h : Nat → Ob) (β : Nat → Loc) (b : Nat) : Prop := Z b ∨ ∃ i, Mine h β i ∧ (β i).b = b
theorem Ob.rw_alive {o : Ob} (h : o.rw = true) : o.alive = true := by cases o <;> first | rfl | cases h

structure Cx (T : TypeId → Ty) (G : Nat → V) (Z : Nat → Prop) (h : Nat → Ob) (β : Nat → Loc) (w : World) : Prop where
  ob : ∀ i, ObRep T w (Own Z h β) (RefRep T h β) (β i) (h i)
  ro : ∀ i, (h i).alive = true → (h i).rw = false → (β i).nil = false → ¬ Own Z h β (β i).b
  inj : ∀ i j, i ≠ j → Mine h β i → Mine h β j → (β i).b ≠ (β j).b
  zlt : ∀ b, Z b → b < w.heap.size
  zown : ∀ i, Mine h β i → ¬ Z (β i).b
  glob : ∀ g, Rep T w (Own Z h β) (G g) noR (.pointer (some ⟨g, 0, none⟩))

def Hd : Ob → Loc → Ob → Loc → Prop
  | .dead, _, _, _ => True
  | .box _ _, l, o', l' => (∃ ro cs', o' = .box ro cs') ∧ l'.b = l.b
  | .row _ g t vs, l, o', l' => ∃ ro g' t' vs', o' = .row ro g' t' vs' ∧ g ≤ g' ∧ (g = g' → t' = t ∧ vs'.length = vs.length ∧ l' = l)
  | .dict .., l, o', l' => (∃ ro t ks vs, o' = .dict ro t ks vs) ∧ l'.b = l.b
theorem Hd.refl (o : Ob) (l : Loc) : Hd o l o l := by
  cases o with
  | dead => trivial
  | box ro cs => exact ⟨⟨_, _, rfl⟩, rfl⟩
  | row ro g t vs => exact ⟨_, _, _, _, rfl, Nat.le_refl _, fun _ => ⟨rfl, rfl, rfl⟩⟩
  | dict ro t ks vs => exact ⟨⟨_, _, _, _, rfl⟩, rfl⟩
theorem Hd.trans {a b c : Ob} {l m n : Loc} (h1 : Hd a l b m) (h2 : Hd b m c n) : Hd a l c n := by
  cases a with
  | dead => trivial
  | box ro cs =>
    obtain ⟨⟨_, _, rfl⟩, e1⟩ := h1
    obtain ⟨h3, e2⟩ := h2
    exact ⟨h3, e2.trans e1⟩
  | row ro g t vs =>
    obtain ⟨_, g1, t1, vs1, rfl, hg, hq⟩ := h1
    obtain ⟨ro2, g2, t2, vs2, rfl, hg2, hq2⟩ := h2
    refine ⟨_, _, _, _, rfl, Nat.le_trans hg hg2, fun he => ?_⟩
    obtain ⟨e1, e2, e3⟩ := hq (by omega)
    obtain ⟨f1, f2, f3⟩ := hq2 (by omega)
    exact ⟨f1.trans e1, f2.trans e2, f3.trans e3⟩
  | dict ro t ks vs =>
    obtain ⟨⟨_, _, _, _, rfl⟩, e1⟩ := h1
    obtain ⟨h3, e2⟩ := h2
    exact ⟨h3, e2.trans e1⟩

/-- What a step may do: the writable blocks of the small heap alone have changed. -/
structure Stp (h : Nat → Ob) (β : Nat → Loc) (w : World) (h' : Nat → Ob) (β' : Nat → Loc) (w' : World) : Prop where
  os : w'.os = w.os
  tape : w'.tape = w.tape
  output : w'.output = w.output
  size : w.heap.size ≤ w'.heap.size
  frame : ∀ b, b < w.heap.size → (∀ i, Mine h β i → (β i).b ≠ b) → w'.heap[b]? = w.heap[b]?
  fresh : ∀ i, Mine h' β' i → (∃ k, Mine h β k ∧ (β k).b = (β' i).b) ∨ w.heap.size ≤ (β' i).b
  hd : ∀ i, Hd (h i) (β i) (h' i) (β' i)

section
variable {T : TypeId → Ty} {G : Nat → V} {Z : Nat → Prop} {h h' h'' : Nat → Ob} {β β' β'' : Nat → Loc} {w w' w'' : World}

theorem refs_of_hd (hh : ∀ i, Hd (h i) (β i) (h' i) (β' i)) {r : V} {y : Value} (hr : RefRep T h β r y) : RefRep T h' β' r y := by
  cases r with
  | box i j =>
    obtain ⟨⟨ro, cs, e⟩, rfl⟩ := hr
    have := hh i
    rw [e] at this
    obtain ⟨⟨ro', cs', e'⟩, hb⟩ := this
    exact ⟨⟨ro', cs', e'⟩, by rw [hb]⟩
  | full tt i g n =>
    obtain ⟨ro, g', t, vs, e, hg, hsl, hx⟩ := hr
    have := hh i
    rw [e] at this
    obtain ⟨ro', g2, t', vs', e', hg', hq⟩ := this
    refine ⟨ro', g2, t', vs', e', Nat.le_trans hg hg', hsl, fun he => ?_⟩
    have h1 : g = g' := by omega
    obtain ⟨ht, h2, h3⟩ := hq (by omega)
    obtain ⟨h0, h4, h5⟩ := hx h1
    exact ⟨ht.trans h0, by omega, by rw [h3]; exact h5⟩
  | sub tt i g o n =>
    obtain ⟨ro, g', t, vs, e, hg, hsl, hx⟩ := hr
    have := hh i
    rw [e] at this
    obtain ⟨ro', g2, t', vs', e', hg', hq⟩ := this
    refine ⟨ro', g2, t', vs', e', Nat.le_trans hg hg', hsl, fun he => ?_⟩
    have h1 : g = g' := by omega
    obtain ⟨ht, h2, h3⟩ := hq (by omega)
    obtain ⟨h0, h4, a, h5, h6⟩ := hx h1
    exact ⟨ht.trans h0, by omega, a, by rw [h3]; exact h5, by rw [h3]; exact h6⟩
  | elt i g k j =>
    obtain ⟨ro, g', t, vs, e, hg, hp, hx⟩ := hr
    have := hh i
    rw [e] at this
    obtain ⟨ro', g2, t', vs', e', hg', hq⟩ := this
    refine ⟨ro', g2, t', vs', e', Nat.le_trans hg hg', hp, fun he => ?_⟩
    have h1 : g = g' := by omega
    obtain ⟨ht, h2, h3⟩ := hq (by omega)
    obtain ⟨h4, h5⟩ := hx h1
    exact ⟨by omega, by rw [h3, ht]; exact h5⟩
  | mref i =>
    obtain ⟨⟨ro, t, ks, vs, e⟩, rfl⟩ := hr
    have := hh i
    rw [e] at this
    obtain ⟨⟨ro', t', ks', vs', e'⟩, hb⟩ := this
    exact ⟨⟨ro', t', ks', vs', e'⟩, by rw [hb]⟩
  | _ => exact hr.elim

theorem Stp.refs (s : Stp h β w h' β' w') {r : V} {y : Value} (hr : RefRep T h β r y) : RefRep T h' β' r y := refs_of_hd s.hd hr
theorem Stp.refl : Stp h β w h β w := ⟨rfl, rfl, rfl, Nat.le_refl _, fun _ _ _ => rfl, fun i hi => .inl ⟨i, hi, rfl⟩, fun i => Hd.refl _ _⟩
theorem Stp.trans (a : Stp h β w h' β' w') (b : Stp h' β' w' h'' β'' w'') : Stp h β w h'' β'' w'' := {
  os := b.os.trans a.os
  tape := b.tape.trans a.tape
  output := b.output.trans a.output
  size := Nat.le_trans a.size b.size
  frame := fun k hk hn => (b.frame k (Nat.lt_of_lt_of_le hk a.size) (fun i hi he => by
    rcases a.fresh i hi with ⟨j, hj, e⟩ | e
    · exact hn j hj (e.trans he)
    · omega)).trans (a.frame k hk hn)
  fresh := fun i hi => by
    rcases b.fresh i hi with ⟨j, hj, e⟩ | e
    · rcases a.fresh j hj with ⟨k, hk, e'⟩ | e'
      · exact .inl ⟨k, hk, e'.trans e⟩
      · exact .inr (by rw [← e]; exact e')
    · exact .inr (Nat.le_trans a.size e)
  hd := fun i => (a.hd i).trans (b.hd i) }
theorem Stp.kept (cx : Cx T G Z h β w) (s : Stp h β w h' β' w') : Kept w w' (Own Z h β) (Own Z h' β') := {
  size := s.size
  same := fun b hb hO => s.frame b hb (fun i hi e => hO (.inr ⟨i, hi, e⟩))
  own := fun b hb hO => by
    rintro (hz | ⟨i, hi, e⟩)
    · exact hO (.inl hz)
    · rcases s.fresh i hi with ⟨k, hk, e'⟩ | e'
      · exact hO (.inr ⟨k, hk, e'.trans e⟩)
      · omega }
theorem Stp.rep (cx : Cx T G Z h β w) (s : Stp h β w h' β' w') {v : V} {x : Value} (hr : Rep T w (Own Z h β) v (RefRep T h β) x) : Rep T w' (Own Z h' β') v (RefRep T h' β') x :=
  Rep.kept (s.kept cx) v _ _ x (fun _ _ h => s.refs h) hr

theorem upd_same {α : Type} (f : Nat → α) (i : Nat) (x : α) : upd f i x i = x := by simp [upd]
theorem upd_other {α : Type} (f : Nat → α) {i j : Nat} (x : α) (hne : j ≠ i) : upd f i x j = f j := by
  unfold upd
  have : Nat.beq j i = false := by
    cases hq : Nat.beq j i with
    | true => exact absurd (Nat.eq_of_beq_eq_true hq) hne
    | false => rfl
  rw [this]

/-- One object is made or changed. -/
theorem Cx.update (cx : Cx T G Z h β w) (i : Nat) (o : Ob) (l : Loc)
    (os : w'.os = w.os) (tape : w'.tape = w.tape) (output : w'.output = w.output) (size : w.heap.size ≤ w'.heap.size)
    (frame : ∀ b, b < w.heap.size → (Mine h β i → (β i).b ≠ b) → w'.heap[b]? = w.heap[b]?)
    (hrw : o.rw = true)
    (hl : l.nil = false → (Mine h β i ∧ l.b = (β i).b) ∨ (w.heap.size ≤ l.b ∧ l.b < w'.heap.size))
    (hd : Hd (h i) (β i) o l)
    (hob : Kept w w' (Own Z h β) (Own Z (upd h i o) (upd β i l)) → (∀ r y, RefRep T h β r y → RefRep T (upd h i o) (upd β i l) r y) → ObRep T w' (Own Z (upd h i o) (upd β i l)) (RefRep T (upd h i o) (upd β i l)) l o) :
    Cx T G Z (upd h i o) (upd β i l) w' ∧ Stp h β w (upd h i o) (upd β i l) w' := by
  have hm : ∀ k, k ≠ i → (Mine (upd h i o) (upd β i l) k ↔ Mine h β k) := fun k hk => by simp [Mine, upd_other _ _ hk]
  have hmi : Mine (upd h i o) (upd β i l) i ↔ l.nil = false := by simp [Mine, upd_same, hrw]
  have hhd : ∀ k, Hd (h k) (β k) (upd h i o k) (upd β i l k) := fun k => by
    by_cases hk : k = i
    · subst hk; rw [upd_same, upd_same]; exact hd
    · rw [upd_other _ _ hk, upd_other _ _ hk]; exact Hd.refl _ _
  have hrefs : ∀ r y, RefRep T h β r y → RefRep T (upd h i o) (upd β i l) r y := fun r y => refs_of_hd hhd
  have st : Stp h β w (upd h i o) (upd β i l) w' := by
    refine ⟨os, tape, output, size, fun b hb hn => frame b hb (hn i), fun k hk => ?_, hhd⟩
    by_cases hki : k = i
    · subst hki
      rw [upd_same]
      rcases hl (hmi.1 hk) with ⟨h1, h2⟩ | ⟨h1, _⟩
      · exact .inl ⟨k, h1, h2.symm⟩
      · exact .inr h1
    · rw [upd_other _ _ hki]
      exact .inl ⟨k, (hm k hki).1 hk, rfl⟩
  have hk := st.kept cx
  refine ⟨⟨fun k => ?_, fun k ha hr hn => ?_, fun a b hab ha hb => ?_, fun b hz => Nat.lt_of_lt_of_le (cx.zlt b hz) size, fun k hmk hz => ?_, fun g => Rep.kept hk _ _ _ _ (fun _ _ h => h) (cx.glob g)⟩, st⟩
  · by_cases hki : k = i
    · subst hki
      rw [upd_same, upd_same]
      exact hob hk hrefs
    · rw [upd_other _ _ hki, upd_other _ _ hki]
      by_cases ha : (h k).alive = true
      · refine (cx.ob k).kept hk hrefs (fun hn => ?_)
        have hlt := (cx.ob k).lt ha hn
        by_cases hr : (h k).rw = true
        · exact frame _ hlt (fun hmi' e => cx.inj i k (Ne.symm hki) hmi' ⟨hr, hn⟩ e)
        · exact hk.same _ hlt (cx.ro k ha (by simpa using hr) hn)
      · have hq : h k = .dead := by
          cases hq : h k with
          | dead => rfl
          | _ => rw [hq] at ha; exact absurd rfl ha
        rw [hq]
        trivial
  · by_cases hki : k = i
    · subst hki
      rw [upd_same] at hr
      rw [hrw] at hr
      cases hr
    · rw [upd_other _ _ hki] at ha hr hn ⊢
      exact hk.own _ ((cx.ob k).lt ha hn) (cx.ro k ha hr hn)
  · by_cases h1 : a = i
    · subst h1
      have hb' := (hm b (Ne.symm hab)).1 hb
      rw [upd_same, upd_other _ _ (Ne.symm hab)]
      rcases hl (hmi.1 ha) with ⟨h2, h3⟩ | ⟨h2, _⟩
      · rw [h3]; exact cx.inj a b hab h2 hb'
      · have := (cx.ob b).lt (Ob.rw_alive hb'.1) hb'.2
        omega
    · have ha' := (hm a h1).1 ha
      rw [upd_other _ _ h1]
      by_cases h4 : b = i
      · subst h4
        rw [upd_same]
        rcases hl (hmi.1 hb) with ⟨h2, h3⟩ | ⟨h2, _⟩
        · rw [h3]; exact cx.inj a b hab ha' h2
        · have := (cx.ob a).lt (Ob.rw_alive ha'.1) ha'.2
          omega
      · rw [upd_other _ _ h4]
        exact cx.inj a b hab ha' ((hm b h4).1 hb)
  · by_cases hki : k = i
    · subst hki
      rw [upd_same] at hz
      rcases hl (hmi.1 hmk) with ⟨h2, h3⟩ | ⟨h2, _⟩
      · rw [h3] at hz; exact cx.zown k h2 hz
      · have := cx.zlt _ hz; omega
    · rw [upd_other _ _ hki] at hz
      exact cx.zown k ((hm k hki).1 hmk) hz
end
end Go.AH
