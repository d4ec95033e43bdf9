/- Structs and arrays that are built; map lookups; built-in functions that only compute. -/
import Derived.Test.YtecplbjggbelbaaAHW
namespace Go.AH
open Go Go.RowKit

theorem foldl_set (v : List Value) : ∀ (off k : Nat) (cells : Array Value), off + k + v.length ≤ cells.size →
    ((v.zipIdx k).foldl (fun cs (x : Value × Nat) => cs.setIfInBounds (off + x.2) x.1) cells).toList = cells.toList.take (off + k) ++ v ++ cells.toList.drop (off + k + v.length) := by
  induction v with
  | nil => intro off k cells h; simp
  | cons x v ih =>
    intro off k cells h
    simp only [List.zipIdx_cons, List.foldl_cons]
    rw [ih off (k + 1) _ (by simp at h ⊢; omega)]
    simp only [List.length_cons] at h
    have h1 : off + k < cells.toList.length := by simp; omega
    simp only [Array.toList_setIfInBounds]
    rw [← Nat.add_assoc, List.take_succ_eq_append_getElem (by simpa using h1)]
    rw [List.take_set_of_le (Nat.le_refl _), List.getElem_set_self, List.drop_set_of_lt (by omega)]
    simp only [List.append_assoc, List.singleton_append, List.length_cons]
    congr 3
    omega

section
variable {E : Env} {P : Program} {Z : Nat → Prop} {h view : Nat → Ob} {β : Nat → Loc} {w : World} {s : Nat → V} {a : Act} {fr : Nat} {o : Oper} {r : Rs}

theorem cellsOk_rep {T : TypeId → Ty} {O : Nat → Prop} {R : V → Value → Prop} {v : V} {x : Value} (hr : Rep T w O v R x) (hv : v.cellsOk = true) (hR : ∀ r y, R r y → y.oneCell' = true) : RepL T w O v.cells R x.cells.toList := by
  refine hr.cells ?_ hR
  cases v <;> first | exact .inl rfl | exact .inr hv
theorem refOne {T : TypeId → Ty} (r : V) (y : Value) (hr : RefRep T h β r y) : y.oneCell' = true := by
  cases r with
  | box i j => rw [hr.2]; rfl
  | full t i g n => obtain ⟨_, _, _, _, _, _, ⟨_, _, rfl, _⟩, _⟩ := hr; rfl
  | sub t i g o n => obtain ⟨_, _, _, _, _, _, ⟨_, _, rfl, _⟩, _⟩ := hr; rfl
  | elt i g k j => obtain ⟨_, _, _, _, _, _, ⟨_, _, rfl⟩, _⟩ := hr; rfl
  | mref i => rw [hr.2]; rfl
  | _ => exact hr.elim
theorem fill_sound (c : Ctx E P Z h view β w s a) {fs : List (Nat × Nat × Bool)} {place : Nat → Option (Nat × Nat)} (hp : ∀ i off n ag, fs[i]? = some (off, n, ag) → place i = some (off, n)) :
    ∀ (parts : List (Nat × Operand)) (cs cs' : List V) (cells : Array Value), RepL E.ty w (Own Z h β) cs (RefRep E.ty h β) cells.toList → fillAgg fs (ev E s) parts cs = some cs' →
    ∃ cells', Instr.fill place cells (parts.map fun x => (x.1, a.eval x.2)) = some cells' ∧ RepL E.ty w (Own Z h β) cs' (RefRep E.ty h β) cells'.toList
  | [], cs, cs', cells, hr, hf => by
    simp [fillAgg] at hf
    subst hf
    exact ⟨cells, rfl, hr⟩
  | (i, x) :: parts, cs, cs', cells, hr, hf => by
    unfold fillAgg at hf
    split at hf
    · rename_i off n ag hi
      split at hf
      · rename_i hc
        simp only [Bool.and_eq_true] at hc
        obtain ⟨⟨hc1, hc2⟩, hc3⟩ := hc
        have h1 := nat_of_beq hc2
        have h2 := Nat.le_of_ble_eq_true hc3
        have hx := cellsOk_rep (c.val x) hc1 refOne
        have hl := hx.length
        have hl2 := hr.length
        have hsz : (a.eval x).cells.size = n := by rw [← h1, ← hl]; simp
        have hcs : cells.size = cs.length := by rw [← hl2]; simp
        simp only [List.map_cons, Instr.fill, hp i off n ag hi]
        have hcond : ¬ ((decide ((a.eval x).cells.size ≠ n) || decide (off + (a.eval x).cells.size > cells.size)) = true) := by rw [hsz, hcs]; simp; omega
        rw [if_neg hcond]
        have hset := foldl_set (a.eval x).cells.toList off 0 cells (by rw [Array.length_toList, hsz, hcs]; omega)
        have heq : ((a.eval x).cells.zipIdx.foldl (fun cs (x : Value × Nat) => cs.setIfInBounds (off + x.2) x.1) cells).toList = cells.toList.take off ++ (a.eval x).cells.toList ++ cells.toList.drop (off + n) := by
          rw [← Array.foldl_toList, Array.toList_zipIdx, hset]
          simp [hsz]
        refine fill_sound c hp parts _ cs' _ ?_ hf
        rw [heq]
        exact ((hr.take off).append hx).append (hr.drop _)
      · cases hf
    · cases hf
theorem op_build (c : Ctx E P Z h view β w s a) {t : TypeId} {parts : Array (Nat × Operand)} (ho : o.op = .build t parts) (he : (evOp E view s fr o).eval = some r) : Gives E P Z h β w a o r := by
  simp only [evOp, ho] at he
  split at he
  · rename_i gs hd
    have row := c.ty.row (ok_of hd (by simp))
    obtain ⟨fs, hu, rfl, _, hfs, _⟩ := row.struct hd
    obtain ⟨i, z, hi, h1, h2, hz, h3, _⟩ := row.info
    cases hq : fillAgg (fs.toList.map fun f => (f.offset, P.cellsOf f.type, aggB P f.type)) (ev E s) parts.toList (zeroT (E.ty t)).cells with
    | none => rw [hq] at he; simp [optTr, Tr.eval] at he
    | some cs =>
      rw [hq] at he
      simp only [optTr, Tr.eval, Option.some.injEq] at he
      have hpl : ∀ (l : List Field), (∀ f ∈ l, (P.info? f.type).isSome = true) → l.mapM (fun f => (P.info? f.type).map fun i => (f.offset, i.size)) = some (l.map fun f => (f.offset, P.cellsOf f.type)) := by
        intro l
        induction l with
        | nil => intro _; rfl
        | cons f l ih =>
          intro hl
          have h5 := hl f (by simp)
          cases hif : P.info? f.type with
          | none => rw [hif] at h5; cases h5
          | some i5 => simp [List.mapM_cons, hif, ih (fun g hg => hl g (by simp [hg])), Program.cellsOf]
      obtain ⟨z', hz1, hz2, hz3, hz4⟩ := row.rep_zero (T := E.ty) (w := w) (O := Own Z h β) w (RefRep E.ty h β)
      have hzz : z' = z := by
        have : (zeroValue t).run P w = .ok z w := by simp [zeroValue, typeInfo, hi, hz]
        rw [this] at hz1
        simpa using hz1.symm
      subst hzz
      obtain ⟨cells, hc1, hc2⟩ := fill_sound c (place := fun x => (fs.toList.map fun f => (f.offset, P.cellsOf f.type))[x]?) (fun i off n ag hh => by
        rw [List.getElem?_map] at hh ⊢
        cases hx : fs.toList[i]? with
        | none => rw [hx] at hh; cases hh
        | some f => rw [hx] at hh; simp at hh ⊢; exact ⟨hh.1, hh.2.1⟩) parts.toList _ _ z'.cells hz3 hq
      refine ⟨_, .agg cells, he.symm, ?_, ⟨_, rfl, hc2⟩⟩
      have hb := run_build (P := P) w t (parts.map fun (i, x) => (i, a.eval x)) cells (by
        unfold Program.built
        simp only [hi, hu, hz, hpl fs.toList (fun f hf => (hfs f hf).1)]
        simpa using hc1)
      simp [execOp, ho, hb]
  · rename_i n e hd
    have row := c.ty.row (ok_of hd (by simp))
    obtain ⟨hu, _⟩ := row.array hd
    obtain ⟨i, z, hi, h1, h2, hz, h3, _⟩ := row.info
    cases hok : (E.ty e).ok with
    | false => rw [hok] at he; simp [optTr, Tr.eval] at he
    | true =>
      rw [hok] at he
      obtain ⟨ie, ze, hie, hs, _⟩ := (c.ty.row hok).info
      cases hq : fillAgg ((List.range n).map fun i => (i * (E.ty e).size, (E.ty e).size, false)) (ev E s) parts.toList (zeroT (E.ty t)).cells with
      | none => rw [hq] at he; simp [optTr, Tr.eval] at he
      | some cs =>
        rw [hq] at he
        simp only [optTr, Tr.eval, Option.some.injEq] at he
        obtain ⟨z', hz1, hz2, hz3, hz4⟩ := row.rep_zero (T := E.ty) (w := w) (O := Own Z h β) w (RefRep E.ty h β)
        have hzz : z' = z := by
          have : (zeroValue t).run P w = .ok z w := by simp [zeroValue, typeInfo, hi, hz]
          rw [this] at hz1
          simpa using hz1.symm
        subst hzz
        obtain ⟨cells, hc1, hc2⟩ := fill_sound c (place := fun i => some (i * ie.size, ie.size)) (fun i off n' ag hh => by
          rw [List.getElem?_map] at hh
          cases hx : (List.range n)[i]? with
          | none => rw [hx] at hh; cases hh
          | some k =>
            rw [hx] at hh
            have hk : k = i := by
              obtain ⟨h5, h6⟩ := List.getElem?_eq_some_iff.1 hx
              rw [List.getElem_range] at h6
              exact h6.symm
            simp at hh
            rw [hs]
            simp [← hh.1, ← hh.2.1, hk]) parts.toList _ _ z'.cells hz3 hq
        refine ⟨_, .agg cells, he.symm, ?_, ⟨_, rfl, hc2⟩⟩
        have hb := run_build (P := P) w t (parts.map fun (i, x) => (i, a.eval x)) cells (by
          unfold Program.built
          simp only [hi, hu, hz, hie]
          simpa using hc1)
        simp [execOp, ho, hb]
  · simp [Tr.eval] at he
end
end Go.AH
