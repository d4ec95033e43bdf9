/- Each operation that only computes or reads, part 3. -/
import Derived.Test.YtecplbjggbelbaaAHU
namespace Go.AH
open Go Go.RowKit

section
variable {E : Env} {P : Program} {Z : Nat → Prop} {h view : Nat → Ob} {β : Nat → Loc} {w : World} {s : Nat → V} {a : Act} {fr : Nat} {o : Oper} {r : Rs}

theorem ok_of {ty : Ty} {d : TD} (hd : ty.d = d) (hne : d ≠ .other) : ty.ok = true := by
  unfold Ty.ok
  rw [hd]
  cases d <;> first | rfl | exact absurd rfl hne
theorem cells_info {t : TypeId} (h : (P.info? t).isSome = true) (w : World) : (sizeOf t).run P w = .ok (P.cellsOf t) w := by
  cases hi : P.info? t with
  | none => rw [hi] at h; cases h
  | some i => simp [sizeOf, typeInfo, hi, Program.cellsOf]
theorem op_fieldAddr (c : Ctx E P Z h view β w s a) {t : TypeId} {x : Operand} {f : Nat} (ho : o.op = .fieldAddr t x f) (he : (evOp E view s fr o).eval = some r) : Gives E P Z h β w a o r := by
  simp only [evOp, ho] at he
  have hx := c.val x
  split at he
  · rename_i gs hd
    have row := c.ty.row (ok_of hd (by simp))
    obtain ⟨fs, hu, rfl, _, hfs, _⟩ := row.struct hd
    have fin : ∀ (off n : Nat) (ag : Bool) (b k : Nat) (v : V), (fs.toList.map fun f => (f.offset, P.cellsOf f.type, aggB P f.type))[f]? = some (off, n, ag) → a.eval x = .pointer (some ⟨b, k, none⟩) → r = .ok v [] → Rep E.ty w (Own Z h β) v (RefRep E.ty h β) (.pointer (some ⟨b, k + off, none⟩)) → Gives E P Z h β w a o r := by
      intro off n ag b k v hf hv hr hrep
      rw [List.getElem?_map] at hf
      cases hq : fs.toList[f]? with
      | none => rw [hq] at hf; cases hf
      | some fl =>
        rw [hq] at hf
        simp only [Option.map_some, Option.some.injEq, Prod.mk.injEq] at hf
        obtain ⟨rfl, rfl, rfl⟩ := hf
        have hq' : fs[f]? = some fl := by simpa using hq
        obtain ⟨h1, h2, h3⟩ := hfs fl (List.mem_of_getElem? hq)
        refine ⟨v, _, hr, ?_, hrep⟩
        simp [execOp, ho, hv, Instr.fieldAt, run_underlying hu, hq', Instr.sureAddr, fieldPlace, cells_info h1, h3, Addr.add_lit]
    split at he
    · rename_i off n ag cs hf hv
      simp only [Tr.eval, Option.some.injEq] at he
      rw [hv] at hx
      obtain ⟨b, k, l, hx, h1, h2, h3, h4⟩ := hx
      exact fin off n ag b k _ hf hx he.symm ⟨b, k + off, l.drop off, rfl, h1, h2, h3.drop off, h4.drop off⟩
    · rename_i off n ag i j hf hv
      simp only [Tr.eval, Option.some.injEq] at he
      rw [hv] at hx
      obtain ⟨h1, hx⟩ := hx
      exact fin off n ag _ j _ hf hx he.symm ⟨h1, rfl⟩
    · rename_i off n ag i g k j hf hv
      simp only [Tr.eval, Option.some.injEq] at he
      rw [hv] at hx
      obtain ⟨ro, g', t', vs, hi, hg, ⟨pb, po, hp⟩, h2⟩ := hx
      refine fin off n ag pb po _ hf hp he.symm ⟨ro, g', t', vs, hi, hg, ⟨_, _, rfl⟩, fun hgg => ?_⟩
      obtain ⟨h3, h4⟩ := h2 hgg
      rw [hp] at h4
      simp only [Value.pointer.injEq, Option.some.injEq, Addr.mk.injEq, and_true] at h4
      obtain ⟨rfl, rfl⟩ := h4
      exact ⟨h3, by rw [Nat.add_assoc]⟩
    · simp [Tr.eval] at he
  · simp [Tr.eval] at he
theorem op_index (c : Ctx E P Z h view β w s a) {t : TypeId} {x y : Operand} (ho : o.op = .index t x y) (he : (evOp E view s fr o).eval = some r) : Gives E P Z h β w a o r := by
  simp only [evOp, ho] at he
  have hx := c.val x
  have hy := c.val y
  split at he
  · rename_i b k n hd hb hn
    obtain ⟨hu, _⟩ := (c.ty.row (ok_of hd (by simp))).str hd
    rw [hb] at hx
    rw [hn] at hy
    obtain ⟨sb, hx, hsb⟩ := hx
    have hy' : a.eval y = .int k n := hy
    obtain ⟨h1, h2⟩ := eval_test he
    simp only [Bool.and_eq_true, decide_eq_true_eq] at h1
    simp only [Tr.eval, Option.some.injEq] at h2
    have hsz : sb.size = b.length := by rw [← hsb]; rfl
    have hlt : n.toNat < sb.size := by omega
    refine ⟨_, .int .u8 (sb[n.toNat]'hlt).toNat, h2.symm, ?_, ?_⟩
    · simp only [execOp, ho, hx, hy']
      rw [Sem.run_bind, run_index_string (P := P) w t sb k n hu, dif_pos ⟨h1.1, by omega⟩]
      rfl
    · show _ = _
      congr 2
      have : b.getD n.toNat 0 = sb[n.toNat]'hlt := by
        subst hsb
        rw [List.getD_eq_getElem?_getD, List.getElem?_eq_getElem (by simpa using hlt)]
        rfl
      rw [this]
  · simp [Tr.eval] at he
theorem op_field (c : Ctx E P Z h view β w s a) {t : TypeId} {x : Operand} {f : Nat} (ho : o.op = .field t x f) (he : (evOp E view s fr o).eval = some r) : Gives E P Z h β w a o r := by
  simp only [evOp, ho] at he
  have hx := c.val x
  split at he
  · rename_i gs hd
    have row := c.ty.row (ok_of hd (by simp))
    obtain ⟨fs, hu, rfl, _, hfs, _⟩ := row.struct hd
    split at he
    · rename_i off n ag cs hf hv
      split at he
      · rename_i hle
        simp only [Tr.eval, Option.some.injEq] at he
        rw [hv] at hx
        obtain ⟨arr, hx, hl⟩ := hx
        rw [List.getElem?_map] at hf
        cases hq : fs.toList[f]? with
        | none => rw [hq] at hf; cases hf
        | some fl =>
          rw [hq] at hf
          simp only [Option.map_some, Option.some.injEq, Prod.mk.injEq] at hf
          obtain ⟨rfl, rfl, rfl⟩ := hf
          have hq' : fs[f]? = some fl := by simpa using hq
          obtain ⟨h1, h2, h3⟩ := hfs fl (List.mem_of_getElem? hq)
          have hle' : fl.offset + P.cellsOf fl.type ≤ cs.length := Nat.le_of_ble_eq_true hle
          have hll := hl.length
          have hagg : (isAgg fl.type).run P w = .ok (aggB P fl.type) w := by
            cases hun : P.underlying fl.type with
            | none => rw [hun] at h2; cases h2
            | some d => cases d <;> simp [isAgg, run_underlying hun, aggB, hun]
          have hdt := (hl.drop fl.offset).take (P.cellsOf fl.type)
          cases hb : aggB P fl.type with
          | true =>
            rw [hb] at hagg he
            refine ⟨_, .agg (arr.extract fl.offset (fl.offset + P.cellsOf fl.type)), he.symm, ?_, ⟨_, rfl, ?_⟩⟩
            · simp [execOp, ho, hx, Instr.field, run_underlying hu, hq', asAgg, part, hagg, cells_info h1]
            · have : (arr.extract fl.offset (fl.offset + P.cellsOf fl.type)).toList = (arr.toList.drop fl.offset).take (P.cellsOf fl.type) := by
                rw [Array.toList_extract]
                simp
              rw [this]
              exact hdt
          | false =>
            rw [hb] at hagg he
            cases hcs : (cs.drop fl.offset).take (P.cellsOf fl.type) with
            | nil =>
              have := congrArg List.length hcs
              simp at this
              omega
            | cons u us =>
              rw [hcs] at hdt he
              obtain ⟨y, rest, hy, hu1, _⟩ := hdt
              have hy2 : arr[fl.offset]? = some y := by
                have : ((arr.toList.drop fl.offset).take (P.cellsOf fl.type))[0]? = some y := by rw [hy]; rfl
                rw [List.getElem?_take] at this
                split at this
                · simpa using this
                · cases this
              refine ⟨_, y, he.symm, ?_, hu1⟩
              simp [execOp, ho, hx, Instr.field, run_underlying hu, hq', asAgg, part, hagg, hy2]
      · simp [Tr.eval] at he
    · simp [Tr.eval] at he
  · simp [Tr.eval] at he
end
end Go.AH
