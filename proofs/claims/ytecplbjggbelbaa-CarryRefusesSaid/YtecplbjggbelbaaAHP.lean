/- Operations that read: loads, indexes, slices, fields. -/
import Derived.Test.YtecplbjggbelbaaAHO
namespace Go.AH
open Go Go.RowKit

section
variable {P : Program} {T : TypeId → Ty} {G : Nat → V} {Z : Nat → Prop} {h view : Nat → Ob} {β : Nat → Loc} {w : World}

/-- The view shows no more than there is. -/
def Sees (view h : Nat → Ob) : Prop := ∀ i, view i = .dead ∨ view i = h i
theorem Sees.at_ (hv : Sees view h) {i : Nat} {o : Ob} (he : view i = o) (ho : o ≠ .dead) : h i = o := by
  rcases hv i with h1 | h1
  · rw [h1] at he; exact absurd he.symm ho
  · rw [← h1]; exact he

theorem Lies.drop {b o : Nat} {l : List Value} (hl : Lies w b o l) (n : Nat) : Lies w b (o + n) (l.drop n) := by
  intro j u hj
  rw [List.getElem?_drop] at hj
  have := hl (n + j) u hj
  rwa [← Nat.add_assoc] at this
theorem Lies.take {b o : Nat} {l : List Value} (hl : Lies w b o l) (n : Nat) : Lies w b o (l.take n) := by
  intro j u hj
  rw [List.getElem?_take] at hj
  split at hj
  · exact hl j u hj
  · cases hj
theorem Lies.of_block {b : Nat} {arr : Array Value} {e : TypeId} {fr : Nat × Nat} (hb : w.heap[b]? = some (.cells arr e fr)) : Lies w b 0 arr.toList := by
  intro j u hj
  simp [World.cell?, hb]
  simpa using hj

theorem cellsAt_sound (hT : TyOk P T) (cx : Cx T G Z h β w) (hv : Sees view h) {v : V} {x : Value} {cs : List V} (hr : Rep T w (Own Z h β) v (RefRep T h β) x) (he : cellsAt T view v = some cs) :
    ∃ b o l, x = .pointer (some ⟨b, o, none⟩) ∧ Lies w b o l ∧ RepL T w (Own Z h β) cs (RefRep T h β) l := by
  unfold cellsAt at he
  split at he
  · rename_i cs'
    obtain ⟨b, o, l, rfl, _, _, h3, h4⟩ := hr
    simp at he
    subst he
    exact ⟨b, o, l, rfl, h3, RepL.refs _ _ _ _ (fun _ _ _ h => h.elim) h4⟩
  · rename_i i j
    split at he
    · rename_i ro cs' hq
      simp at he
      subst he
      have hi := hv.at_ hq (by simp)
      obtain ⟨_, hx⟩ := hr
      have ho := cx.ob i
      rw [hi] at ho
      obtain ⟨_, arr, e, h1, h2⟩ := ho
      refine ⟨(β i).b, j, arr.toList.drop j, hx, ?_, h2.drop j⟩
      have := (Lies.of_block h1).drop j
      rwa [Nat.zero_add] at this
    · cases he
  · rename_i i g k j
    split at he
    · rename_i ro g' t vs hq
      split at he
      · rename_i hg
        simp at he
        subst he
        have hgg : g = g' := Nat.eq_of_beq_eq_true hg
        have hi := hv.at_ hq (by simp)
        obtain ⟨ro2, g2, t2, vs2, hi2, _, _, hx⟩ := hr
        rw [hi] at hi2
        simp only [Ob.row.injEq] at hi2
        obtain ⟨rfl, rfl, rfl, rfl⟩ := hi2
        obtain ⟨hk, hx⟩ := hx hgg
        have ho := cx.ob i
        rw [hi] at ho
        obtain ⟨ht, ho | ⟨_, cur, _, _, _, _, h5⟩⟩ := ho
        · rw [ho.2.1] at hk; simp at hk
        · have hkk : vs[k]? = some vs[k] := List.getElem?_eq_getElem hk
          obtain ⟨f1, f2, cs', h6, h7, h8⟩ := RepSeq.get h5 hkk
          have hgd : vs[k]?.getD .top = vs[k] := by simp [hkk]
          rw [hgd, f2]
          refine ⟨(β i).b, k * (T t).size + j, cs'.drop j, hx, ?_, ?_⟩
          · have := h7.drop j
            rwa [Nat.zero_add] at this
          · exact (RepL.refs _ _ _ _ (fun _ _ _ h => h.elim) (mkVal_rep (hT.row ht) f1 h6 h8)).drop j
      · cases he
    · cases he
  · cases he

theorem run_loadAt (hT : TyOk P T) {t : TypeId} (ht : (T t).ok = true) {b o : Nat} {l : List Value} (hl : Lies w b o l) :
    ((T t).agg = true → (T t).size ≤ l.length → (Instr.loadAt t (.pointer (some ⟨b, o, none⟩))).run P w = .ok (.agg (l.take (T t).size).toArray) w) ∧
    ((T t).agg = false → ∀ u r, l = u :: r → (Instr.loadAt t (.pointer (some ⟨b, o, none⟩))).run P w = .ok u w) := by
  have row := hT.row ht
  refine ⟨fun ha hs => ?_, fun ha u r hu => ?_⟩
  · have hlen : (l.take (T t).size).length = (T t).size := by simp; omega
    have hc := run_loadCells_list (P := P) w ⟨b, o, none⟩ (l.take (T t).size) (fun j v hj => by rw [Addr.add_lit]; exact hl.take _ j v hj)
    rw [hlen] at hc
    simp [Instr.loadAt, Instr.sureAddr, loadVar, row.agg, ha, row.size, hc]
  · subst hu
    have := hl 0 u rfl
    rw [Nat.add_zero] at this
    simp [Instr.loadAt, Instr.sureAddr, loadVar, row.agg, ha, this]

theorem eval_test {α : Type} {b : Bool} {t : Tr α} {a : α} (h : (Tr.test b t).eval = some a) : b = true ∧ t.eval = some a := by
  cases b
  · simp [Tr.test, Tr.eval] at h
  · exact ⟨rfl, h⟩
theorem eval_bind {α β : Type} : ∀ {t : Tr α} {f : α → Tr β} {b : β}, (t.bind f).eval = some b → ∃ a, t.eval = some a ∧ (f a).eval = some b
  | .ret a, f, b, h => ⟨a, rfl, h⟩
  | .ite true t e, f, b, h => eval_bind (t := t) h
  | .ite false t e, f, b, h => eval_bind (t := e) h
  | .fail, f, b, h => by simp [Tr.bind, Tr.eval] at h
theorem bind_eval {α β : Type} : ∀ {t : Tr α} {f : α → Tr β} {a : α}, t.eval = some a → (t.bind f).eval = (f a).eval
  | .ret a, f, b, h => by simp [Tr.eval] at h; subst h; rfl
  | .ite true t e, f, b, h => bind_eval (t := t) h
  | .ite false t e, f, b, h => bind_eval (t := e) h
  | .fail, f, b, h => by simp [Tr.eval] at h

theorem RepSeq.part {T : TypeId → Ty} {w : World} {O : Nat → Prop} {t b : Nat} : ∀ (vs : List V) (o m : Nat) {off : Nat}, RepSeq T w O vs t b off → RepSeq T w O ((vs.drop o).take m) t b (off + o * (T t).size)
  | [], o, m, off, _ => by simp; exact trivial
  | v :: vs, 0, 0, off, _ => by simp; exact trivial
  | v :: vs, 0, m + 1, off, hs => by
    simp only [List.drop_zero, List.take_succ_cons, Nat.zero_mul, Nat.add_zero]
    have := RepSeq.part vs 0 m hs.2.2
    simp only [List.drop_zero, Nat.zero_mul, Nat.add_zero] at this
    exact ⟨hs.1, hs.2.1, this⟩
  | v :: vs, o + 1, m, off, hs => by
    rw [List.drop_succ_cons]
    have := RepSeq.part vs o m hs.2.2
    rwa [Nat.succ_mul, show off + (o * (T t).size + (T t).size) = off + (T t).size + o * (T t).size from by omega]
/-- What a slice holds, and where. -/
theorem els_sound (cx : Cx T G Z h β w) (hv : Sees view h) {v : V} {x : Value} {t : TypeId} {vs : List V} (hr : Rep T w (Own Z h β) v (RefRep T h β) x) (he : els view v = some (t, vs)) :
    ∃ a cap, x = .slice a vs.length cap ∧ vs.length ≤ cap ∧ (vs = [] ∨ ∃ b o, a = some ⟨b, o, none⟩ ∧ b < w.heap.size ∧ RepSeq T w (Own Z h β) vs t b o) := by
  have rowRep : ∀ {i ro g vs'}, h i = .row ro g t vs' → ((β i).nil = true ∧ vs' = [] ∧ (β i).cap = 0) ∨ ((β i).nil = false ∧ vs'.length ≤ (β i).cap ∧ (β i).b < w.heap.size ∧ RepSeq T w (Own Z h β) vs' t (β i).b 0) := by
    intro i ro g vs' hi
    have ho := cx.ob i
    rw [hi] at ho
    obtain ⟨_, ho | ⟨hn, cur, h1, h2, _, _, h5⟩⟩ := ho
    · exact .inl ho
    · exact .inr ⟨hn, h2, (Array.getElem?_eq_some_iff.1 h1).1, h5⟩
  unfold els at he
  split at he
  · simp at he
    obtain ⟨rfl, rfl⟩ := he
    obtain ⟨a, cap, rfl, h1, h2 | ⟨b, o, rfl, h3, _, h4⟩⟩ := hr
    · exact ⟨a, cap, rfl, h1, .inl h2⟩
    · exact ⟨_, cap, rfl, h1, .inr ⟨b, o, rfl, h3, h4⟩⟩
  · rename_i i g n
    split at he
    · rename_i ro g' t' vs' hq
      split at he
      · rename_i hg
        simp at he
        obtain ⟨rfl, rfl⟩ := he
        have hgg : g = g' := Nat.eq_of_beq_eq_true hg
        have hi := hv.at_ hq (by simp)
        obtain ⟨ro2, g2, t2, vs2, hi2, _, _, hx⟩ := hr
        rw [hi] at hi2
        simp only [Ob.row.injEq] at hi2
        obtain ⟨rfl, rfl, rfl, rfl⟩ := hi2
        obtain ⟨rfl, rfl, rfl⟩ := hx hgg
        rcases rowRep hi with ⟨h1, h2, h3⟩ | ⟨h1, h2, h3, h4⟩
        · exact ⟨_, _, rfl, by rw [h2]; exact Nat.zero_le _, .inl h2⟩
        · exact ⟨_, _, rfl, h2, .inr ⟨_, _, by simp [Loc.addr, h1], h3, h4⟩⟩
      · cases he
    · cases he
  · rename_i i g o m
    split at he
    · rename_i ro g' t' vs' hq
      split at he
      · rename_i hg
        simp at he
        obtain ⟨rfl, rfl⟩ := he
        have hgg : g = g' := Nat.eq_of_beq_eq_true hg
        have hi := hv.at_ hq (by simp)
        obtain ⟨ro2, g2, t2, vs2, hi2, _, _, hx⟩ := hr
        rw [hi] at hi2
        simp only [Ob.row.injEq] at hi2
        obtain ⟨rfl, rfl, rfl, rfl⟩ := hi2
        obtain ⟨rfl, hom, a, rfl, hx2⟩ := hx hgg
        have hlen : ((vs'.drop o).take m).length = m := by simp; omega
        rw [hlen]
        rcases rowRep hi with ⟨h1, h2, h3⟩ | ⟨h1, h2, h3, h4⟩
        · subst h2
          simp at hom
          obtain ⟨_, rfl⟩ := hom
          exact ⟨_, _, rfl, Nat.zero_le _, .inl (by simp)⟩
        · refine ⟨_, _, rfl, by omega, ?_⟩
          by_cases hm : m = 0
          · subst hm; exact .inl (by simp)
          · refine .inr ⟨_, _, hx2 (by omega), h3, ?_⟩
            have := RepSeq.part vs' o m h4
            rwa [Nat.zero_add] at this
      · cases he
    · cases he
  · cases he
end
end Go.AH
