/- The small heap named anew. -/
import Derived.Test.YtecplbjggbelbaaAHY
namespace Go.AH
open Go Go.RowKit

theorem hOf_get : ∀ (os : List Ob) (k : Nat), hOf os k = (os[k]?).getD .dead
  | [], k => by simp [hOf]
  | o :: os, 0 => by simp [hOf]
  | o :: os, k + 1 => by simp [hOf, hOf_get os k]
theorem pos_get : ∀ {p : List Nat} {i k : Nat}, pos p i = some k → p[k]? = some i
  | [], _, _, h => by simp [pos] at h
  | j :: r, i, k, h => by
    unfold pos at h
    split at h
    · rename_i hb
      simp at h
      subst h
      simp [nat_of_beq hb]
    · cases hq : pos r i with
      | none => simp [hq] at h
      | some k' =>
        simp [hq] at h
        subst h
        simpa using pos_get hq
theorem pos_mem : ∀ {p : List Nat} {i : Nat}, i ∈ p → ∃ k, pos p i = some k
  | [], i, h => by cases h
  | j :: r, i, h => by
    unfold pos
    cases hb : Nat.beq i j with
    | true => exact ⟨0, rfl⟩
    | false =>
      rcases List.mem_cons.1 h with h | h
      · subst h; rw [show Nat.beq i i = true from Nat.beq_refl i] at hb; cases hb
      · obtain ⟨k, hk⟩ := pos_mem h
        exact ⟨k + 1, by simp [hk]⟩

theorem addNew_prefix : ∀ (l seen : List Nat), ∃ t, addNew seen l = seen ++ t
  | [], seen => ⟨[], by simp [addNew]⟩
  | i :: r, seen => by
    unfold addNew
    split
    · exact addNew_prefix r seen
    · obtain ⟨t, ht⟩ := addNew_prefix r (seen ++ [i])
      exact ⟨i :: t, by rw [ht]; simp⟩
theorem addNew_nodup : ∀ (l seen : List Nat), seen.Nodup → (addNew seen l).Nodup
  | [], seen, h => h
  | i :: r, seen, h => by
    unfold addNew
    split
    · exact addNew_nodup r seen h
    · rename_i hc
      refine addNew_nodup r _ ?_
      rw [List.nodup_append]
      refine ⟨h, by simp, ?_⟩
      intro a ha b hb
      simp at hb
      subst hb
      intro he
      subst he
      have : seen.contains a = true := by simpa using ha
      rw [this] at hc
      cases hc
theorem addNew_append : ∀ (l m seen : List Nat), addNew seen (l ++ m) = addNew (addNew seen l) m
  | [], m, seen => rfl
  | i :: r, m, seen => by
    have e1 : addNew seen (i :: (r ++ m)) = (match seen.contains i with | true => addNew seen (r ++ m) | false => addNew (seen ++ [i]) (r ++ m)) := rfl
    have e2 : addNew seen (i :: r) = (match seen.contains i with | true => addNew seen r | false => addNew (seen ++ [i]) r) := rfl
    rw [List.cons_append, e1, e2]
    split <;> exact addNew_append r m _
theorem addNew_mem : ∀ (l seen : List Nat) (i : Nat), (i ∈ seen ∨ i ∈ l) → i ∈ addNew seen l
  | [], seen, i, h => by simpa [addNew] using h
  | j :: r, seen, i, h => by
    unfold addNew
    split
    · rename_i hc
      refine addNew_mem r seen i ?_
      rcases h with h | h
      · exact .inl h
      · rcases List.mem_cons.1 h with rfl | h
        · exact .inl (by simpa using hc)
        · exact .inr h
    · refine addNew_mem r _ i ?_
      rcases h with h | h
      · exact .inl (by simp [h])
      · rcases List.mem_cons.1 h with rfl | h
        · exact .inl (by simp)
        · exact .inr h
theorem addNew_fresh : ∀ (l seen : List Nat), (seen ++ l).Nodup → addNew seen l = seen ++ l
  | [], seen, _ => by simp [addNew]
  | i :: r, seen, h => by
    unfold addNew
    have hc : seen.contains i = false := by
      cases hq : seen.contains i with
      | false => rfl
      | true =>
        have hi : i ∈ seen := by simpa using hq
        rw [List.nodup_append] at h
        exact absurd rfl (h.2.2 i hi i (by simp))
    rw [hc]
    simp only
    rw [addNew_fresh r (seen ++ [i]) (by simpa using h)]
    simp
theorem reachGo_prefix (h : Nat → Ob) : ∀ (n : Nat) (seen : List Nat) (k : Nat), ∃ t, reachGo h n seen k = seen ++ t
  | 0, seen, k => ⟨[], by simp [reachGo]⟩
  | n + 1, seen, k => by
    unfold reachGo
    split
    · exact ⟨[], by simp⟩
    · rename_i i hi
      obtain ⟨t, ht⟩ := addNew_prefix (h i).refs seen
      obtain ⟨u, hu⟩ := reachGo_prefix h n (addNew seen (h i).refs) (k + 1)
      exact ⟨t ++ u, by rw [hu, ht, List.append_assoc]⟩
theorem reachGo_nodup (h : Nat → Ob) : ∀ (n : Nat) (seen : List Nat) (k : Nat), seen.Nodup → (reachGo h n seen k).Nodup
  | 0, seen, k, hn => hn
  | n + 1, seen, k, hn => by
    unfold reachGo
    split
    · exact hn
    · exact reachGo_nodup h n _ _ (addNew_nodup _ _ hn)
theorem reach_nodup (h : Nat → Ob) (l : List Nat) : (reach h l).Nodup := reachGo_nodup h _ _ _ (addNew_nodup _ _ List.nodup_nil)
theorem reach_mem (h : Nat → Ob) (l : List Nat) {i : Nat} (hi : i ∈ l) : i ∈ reach h l := by
  obtain ⟨t, ht⟩ := reachGo_prefix h 64 (addNew [] l) 0
  unfold reach
  rw [ht]
  exact List.mem_append_left _ (addNew_mem l [] i (.inr hi))
theorem reach_range (h : Nat → Ob) (m : Nat) (l : List Nat) {i : Nat} (hi : i < m) : (reach h (List.range m ++ l))[i]? = some i := by
  obtain ⟨t, ht⟩ := reachGo_prefix h 64 (addNew [] (List.range m ++ l)) 0
  unfold reach
  rw [ht, addNew_append, addNew_fresh (List.range m) [] (by simpa using List.nodup_range)]
  obtain ⟨u, hu⟩ := addNew_prefix l ([] ++ List.range m)
  rw [hu, List.nil_append, List.append_assoc, List.getElem?_append_left (by simpa using hi)]
  simp [hi]

section
variable {T : TypeId → Ty} {G : Nat → V} {Z Z' : Nat → Prop} {h h' h'' : Nat → Ob} {β β' β'' : Nat → Loc} {w w' w'' : World} {δ : Nat → Nat → Nat} {ids : List Nat} {m : Nat}

def reL (β : Nat → Loc) (ids : List Nat) (k : Nat) : Loc := match ids[k]? with | some i => β i | none => default
def reH (h : Nat → Ob) (δ : Nat → Nat → Nat) (ids : List Nat) : Nat → Ob := hOf (reO h δ ids)
theorem reH_some {k i : Nat} (hk : ids[k]? = some i) : reH h δ ids k = (h i).ren (renRef (pos ids) (genAt h δ)) (δ i) := by
  rw [reH, hOf_get, reO, List.getElem?_map, hk]
  rfl
theorem reH_none {k : Nat} (hk : ids[k]? = none) : reH h δ ids k = .dead := by
  rw [reH, hOf_get, reO, List.getElem?_map, hk]
  rfl
theorem reL_some {k i : Nat} (hk : ids[k]? = some i) : reL β ids k = β i := by
  rw [reL, hk]
theorem ren_rw (o : Ob) (φ : V → V) (g : Nat → Nat) : (o.ren φ g).rw = o.rw := by cases o <;> rfl
theorem ren_alive (o : Ob) (φ : V → V) (g : Nat → Nat) : (o.ren φ g).alive = o.alive := by cases o <;> rfl
theorem reMine {k : Nat} (hm : Mine (reH h δ ids) (reL β ids) k) : ∃ i, ids[k]? = some i ∧ Mine h β i ∧ (reL β ids k).b = (β i).b := by
  cases hk : ids[k]? with
  | none =>
    obtain ⟨h1, _⟩ := hm
    rw [reH_none hk] at h1
    cases h1
  | some i =>
    obtain ⟨h1, h2⟩ := hm
    rw [reH_some hk, ren_rw] at h1
    rw [reL_some hk] at h2 ⊢
    exact ⟨i, rfl, ⟨h1, h2⟩, rfl⟩
theorem reMine' {k i : Nat} (hk : ids[k]? = some i) (hm : Mine h β i) : Mine (reH h δ ids) (reL β ids) k := by
  refine ⟨?_, ?_⟩
  · rw [reH_some hk, ren_rw]; exact hm.1
  · rw [reL_some hk]; exact hm.2
/-- References named anew. -/
theorem RefRep.re {O : Nat → Prop} {r : V} {y : Value} (hr : RefRep T h β r y) : Rep T w O (renRef (pos ids) (genAt h δ) r) (RefRep T (reH h δ ids) (reL β ids)) y := by
  cases r with
  | box i j =>
    obtain ⟨⟨ro, cs, e⟩, hy⟩ := hr
    cases hp : pos ids i with
    | none => simp only [renRef, hp]; exact trivial
    | some k =>
      have hk := pos_get hp
      simp only [renRef, hp]
      exact ⟨⟨ro, _, by rw [reH_some hk, e]; rfl⟩, by rw [reL_some hk]; exact hy⟩
  | full t i g n =>
    obtain ⟨ro, g', t', vs, e, hg, hsl, hx⟩ := hr
    cases hp : pos ids i with
    | none => simp only [renRef, hp]; exact trivial
    | some k =>
      have hk := pos_get hp
      cases hb : Nat.beq g g' with
      | false => simp only [renRef, hp, genAt, e, hb]; exact trivial
      | true =>
        simp only [renRef, hp, genAt, e, hb]
        exact ⟨ro, δ i g', t', vs, by rw [reH_some hk, e]; rfl, Nat.le_refl _, hsl, fun _ => by rw [reL_some hk]; exact hx (nat_of_beq hb)⟩
  | sub t i g o n =>
    obtain ⟨ro, g', t', vs, e, hg, hsl, hx⟩ := hr
    cases hp : pos ids i with
    | none => simp only [renRef, hp]; exact trivial
    | some k =>
      have hk := pos_get hp
      cases hb : Nat.beq g g' with
      | false => simp only [renRef, hp, genAt, e, hb]; exact trivial
      | true =>
        simp only [renRef, hp, genAt, e, hb]
        exact ⟨ro, δ i g', t', vs, by rw [reH_some hk, e]; rfl, Nat.le_refl _, hsl, fun _ => by rw [reL_some hk]; exact hx (nat_of_beq hb)⟩
  | elt i g a j =>
    obtain ⟨ro, g', t', vs, e, hg, hsl, hx⟩ := hr
    cases hp : pos ids i with
    | none => simp only [renRef, hp]; exact trivial
    | some k =>
      have hk := pos_get hp
      cases hb : Nat.beq g g' with
      | false => simp only [renRef, hp, genAt, e, hb]; exact trivial
      | true =>
        simp only [renRef, hp, genAt, e, hb]
        exact ⟨ro, δ i g', t', vs, by rw [reH_some hk, e]; rfl, Nat.le_refl _, hsl, fun _ => by rw [reL_some hk]; exact hx (nat_of_beq hb)⟩
  | mref i =>
    obtain ⟨⟨ro, t, ks, vs, e⟩, hy⟩ := hr
    cases hp : pos ids i with
    | none => simp only [renRef, hp]; exact trivial
    | some k =>
      have hk := pos_get hp
      simp only [renRef, hp]
      exact ⟨⟨ro, _, _, _, by rw [reH_some hk, e]; rfl⟩, by rw [reL_some hk]; exact hy⟩
  | _ => exact hr.elim
/-- A set of blocks to be left alone made smaller. -/
theorem Kept.less {O O' : Nat → Prop} (hO : ∀ b, O' b → O b) : Kept w w O O' := ⟨Nat.le_refl _, fun _ _ _ => rfl, fun b _ h h' => h (hO b h')⟩
theorem Rep.re {O O' : Nat → Prop} {v : V} {x : Value} (hO : ∀ b, O' b → O b) (hr : Rep T w O v (RefRep T h β) x) : Rep T w O' (reV h δ ids v) (RefRep T (reH h δ ids) (reL β ids)) x :=
  Rep.mapRef v _ _ x (fun _ _ h => h.re) (Rep.kept (Kept.less hO) v _ _ x (fun _ _ h => h) hr)
theorem ObRep.re {O O' : Nat → Prop} {l : Loc} {o : Ob} (hO : ∀ b, O' b → O b) (g : Nat → Nat) (hr : ObRep T w O (RefRep T h β) l o) : ObRep T w O' (RefRep T (reH h δ ids) (reL β ids)) l (o.ren (renRef (pos ids) (genAt h δ)) g) := by
  have hr := hr.kept (w' := w) (O' := O') (R' := RefRep T h β) (Kept.less hO) (fun _ _ h => h) (fun _ => rfl)
  cases o with
  | dead => trivial
  | box ro cs =>
    obtain ⟨hn, arr, e, h1, h2⟩ := hr
    exact ⟨hn, arr, e, h1, RepL.mapRef cs _ _ _ (fun _ _ h => h.re) h2⟩
  | row ro g t vs => exact hr
  | dict ro t ks vs => exact hr
theorem reOwn (hZ : ∀ b, Z' b → Own Z h β b) (b : Nat) (ho : Own Z' (reH h δ ids) (reL β ids) b) : Own Z h β b := by
  rcases ho with hz | ⟨k, hk, e⟩
  · exact hZ b hz
  · obtain ⟨i, _, hi, he⟩ := reMine hk
    exact .inr ⟨i, hi, he.symm.trans e⟩
theorem Cx.re (cx : Cx T G Z h β w) (hnd : ids.Nodup) (hZ : ∀ b, Z' b → Own Z h β b) (hzlt : ∀ b, Z' b → b < w.heap.size) (hzown : ∀ i ∈ ids, Mine h β i → ¬ Z' (β i).b) : Cx T G Z' (reH h δ ids) (reL β ids) w := {
  ob := fun k => by
    cases hk : ids[k]? with
    | none => rw [reH_none hk]; trivial
    | some i =>
      rw [reH_some hk, reL_some hk]
      exact (cx.ob i).re (reOwn hZ) _
  ro := fun k ha hr hn ho => by
    cases hk : ids[k]? with
    | none => rw [reH_none hk] at ha; cases ha
    | some i =>
      rw [reH_some hk, ren_alive] at ha
      rw [reH_some hk, ren_rw] at hr
      rw [reL_some hk] at hn ho
      exact cx.ro i ha hr hn (reOwn hZ _ ho)
  inj := fun a b hab ha hb => by
    obtain ⟨i, hi, mi, ei⟩ := reMine ha
    obtain ⟨j, hj, mj, ej⟩ := reMine hb
    rw [ei, ej]
    refine cx.inj i j (fun e => hab ?_) mi mj
    subst e
    obtain ⟨h1, h2⟩ := List.getElem?_eq_some_iff.1 hi
    obtain ⟨h3, h4⟩ := List.getElem?_eq_some_iff.1 hj
    exact (List.getElem_inj hnd).1 (h2.trans h4.symm)
  zlt := hzlt
  zown := fun k hk hz => by
    obtain ⟨i, hi, mi, ei⟩ := reMine hk
    rw [ei] at hz
    exact hzown i (List.mem_of_getElem? hi) mi hz
  glob := fun g => Rep.kept (Kept.less (reOwn hZ)) _ _ _ _ (fun _ _ h => h) (cx.glob g) }

/-- What has happened since a function's begin: of its own objects alone. -/
structure Wk (m : Nat) (h : Nat → Ob) (β : Nat → Loc) (w : World) (h' : Nat → Ob) (β' : Nat → Loc) (w' : World) : Prop where
  os : w'.os = w.os
  tape : w'.tape = w.tape
  output : w'.output = w.output
  size : w.heap.size ≤ w'.heap.size
  frame : ∀ b, b < w.heap.size → (∀ i, Mine h β i → (β i).b ≠ b) → w'.heap[b]? = w.heap[b]?
  fresh : ∀ i, Mine h' β' i → (∃ k, Mine h β k ∧ (β k).b = (β' i).b) ∨ w.heap.size ≤ (β' i).b
  hd : ∀ i, i < m → Hd (h i) (β i) (h' i) (β' i)
theorem Stp.wk (s : Stp h β w h' β' w') : Wk m h β w h' β' w' := ⟨s.os, s.tape, s.output, s.size, s.frame, s.fresh, fun i _ => s.hd i⟩
theorem Wk.refl : Wk m h β w h β w := Stp.refl.wk
theorem Wk.trans (a : Wk m h β w h' β' w') (b : Wk m h' β' w' h'' β'' w'') : Wk m h β w h'' β'' w'' := {
  os := b.os.trans a.os
  tape := b.tape.trans a.tape
  output := b.output.trans a.output
  size := Nat.le_trans a.size b.size
  frame := fun k hk hn => (b.frame k (Nat.lt_of_lt_of_le hk a.size) (fun i hi he => by
    rcases a.fresh i hi with ⟨j, hj, e⟩ | e
    · exact hn j hj (e.trans he)
    · omega)).trans (a.frame k hk hn)
  fresh := fun i hi => by
    rcases b.fresh i hi with ⟨j, hj, e⟩ | e
    · rcases a.fresh j hj with ⟨k, hk, e'⟩ | e'
      · exact .inl ⟨k, hk, e'.trans e⟩
      · exact .inr (by rw [← e]; exact e')
    · exact .inr (Nat.le_trans a.size e)
  hd := fun i hi => (a.hd i hi).trans (b.hd i hi) }
/-- Rows that were there at the begin had generation 0. -/
def New (h : Nat → Ob) : Prop := ∀ i ro g t vs, h i = .row ro g t vs → g = 0
theorem Wk.re (a : Wk m h β w h' β' w') (hn : New h) (hpre : ∀ i, i < m → ids[i]? = some i) (hδ : ∀ i g, i < m → δ i g = 0 → g = 0) : Wk m h β w (reH h' δ ids) (reL β' ids) w' := {
  os := a.os
  tape := a.tape
  output := a.output
  size := a.size
  frame := a.frame
  fresh := fun k hk => by
    obtain ⟨i, hi, mi, ei⟩ := reMine hk
    rw [ei]
    exact a.fresh i mi
  hd := fun i hi => by
    rw [reH_some (hpre i hi), reL_some (hpre i hi)]
    have h1 := a.hd i hi
    cases hq : h i with
    | dead => trivial
    | box ro cs =>
      rw [hq] at h1
      obtain ⟨⟨ro', cs', e⟩, h2⟩ := h1
      rw [e]
      exact ⟨⟨_, _, rfl⟩, h2⟩
    | row ro g t vs =>
      rw [hq] at h1
      obtain ⟨ro', g', t', vs', e, hg, h2⟩ := h1
      have hg0 := hn i ro g t vs hq
      subst hg0
      rw [e]
      exact ⟨_, _, _, _, rfl, Nat.zero_le _, fun h3 => h2 (hδ i g' hi h3.symm).symm⟩
    | dict ro t ks vs =>
      rw [hq] at h1
      obtain ⟨⟨ro', t', ks', vs', e⟩, h2⟩ := h1
      rw [e]
      exact ⟨⟨_, _, _, _, rfl⟩, h2⟩ }
end
end Go.AH
