/- Each operation that only computes or reads, part 4. -/
import Derived.Test.YtecplbjggbelbaaAHV
namespace Go.AH
open Go Go.RowKit

section
variable {E : Env} {P : Program} {Z : Nat → Prop} {h view : Nat → Ob} {β : Nat → Loc} {w : World} {s : Nat → V} {a : Act} {fr : Nat} {o : Oper} {r : Rs}

theorem run_indexAt {t e : TypeId} (hu : P.underlying t = some (.slice e)) {ty : Ty} (row : Row P e ty) (ad : Addr) (len cap : Nat) (k : IntKind) (n : Int) (h0 : 0 ≤ n) (h1 : n < len) :
    (Instr.indexAt t (.slice (some ad) len cap) (.int k n)).run P w = .ok (.pointer (some (ad.add (n.toNat * ty.size)))) w := by
  simp [Instr.indexAt, asIntOf, run_underlying hu, h0, h1, row.size]
theorem op_indexAddr (c : Ctx E P Z h view β w s a) {t : TypeId} {x y : Operand} (ho : o.op = .indexAddr t x y) (he : (evOp E view s fr o).eval = some r) : Gives E P Z h β w a o r := by
  simp only [evOp, ho] at he
  have hx := c.val x
  have hy := c.val y
  split at he
  · rename_i k n hn
    rw [hn] at hy
    have hy' : a.eval y = .int k n := hy
    split at he
    · rename_i e hd
      obtain ⟨hu, _⟩ := (c.ty.row (ok_of hd (by simp))).slice hd
      split at he
      · rename_i t' vs hv
        rw [hv] at hx
        split at he
        · rename_i hte
          rw [Bool.and_eq_true] at hte
          have := nat_of_beq hte.1
          subst this
          have row := c.ty.row hte.2
          obtain ⟨h1, h2⟩ := eval_test he
          simp only [Bool.and_eq_true, decide_eq_true_eq] at h1
          simp only [Tr.eval, Option.some.injEq] at h2
          obtain ⟨ad, cap, hx, _, hx2 | ⟨b, off, rfl, hb, hO, hs⟩⟩ := hx
          · subst hx2; simp at h1; omega
          · have hlt : n.toNat < vs.length := by omega
            have hkk : vs[n.toNat]? = some vs[n.toNat] := List.getElem?_eq_getElem hlt
            obtain ⟨f1, f2, cs, h6, h7, h8⟩ := RepSeq.get hs hkk
            have hgd : vs.getD n.toNat .top = vs[n.toNat] := by rw [List.getD_eq_getElem?_getD, hkk]; rfl
            rw [hgd, f2] at h2
            refine ⟨_, .pointer (some ⟨b, off + n.toNat * (E.ty t').size, none⟩), h2.symm, ?_, ⟨_, _, cs, rfl, hb, hO, h7, mkVal_rep row f1 h6 h8⟩⟩
            simp [execOp, ho, hx, hy', run_indexAt hu row _ _ _ k n h1.1 h1.2, Addr.add_lit]
        · simp [Tr.eval] at he
      · rename_i t' i g m hv
        rw [hv] at hx
        obtain ⟨h1, h2⟩ := eval_test he
        simp only [Bool.and_eq_true, decide_eq_true_eq] at h1
        simp only [Tr.eval, Option.some.injEq] at h2
        obtain ⟨⟨⟨hte, hok⟩, h3⟩, h4⟩ := h1
        have := nat_of_beq hte
        subst this
        have row := c.ty.row hok
        obtain ⟨ro, g', tt, vs, hi, hg, ⟨ad, cap, hx, hc, had⟩, hx2⟩ := hx
        obtain ⟨b, off, rfl⟩ := had (by omega)
        refine ⟨_, .pointer (some ⟨b, off + n.toNat * (E.ty t').size, none⟩), h2.symm, ?_, ⟨ro, g', tt, vs, hi, hg, ⟨_, _, rfl⟩, fun hgg => ?_⟩⟩
        · simp [execOp, ho, hx, hy', run_indexAt hu row _ _ _ k n h3 h4, Addr.add_lit]
        · obtain ⟨rfl, rfl, hx3⟩ := hx2 hgg
          rw [hx] at hx3
          simp only [Value.slice.injEq, true_and, Loc.addr] at hx3
          obtain ⟨hx3, rfl⟩ := hx3
          split at hx3
          · cases hx3
          · simp only [Option.some.injEq, Addr.mk.injEq, and_true] at hx3
            obtain ⟨rfl, rfl⟩ := hx3
            exact ⟨by omega, by simp⟩
      · rename_i t' i g o2 m hv
        rw [hv] at hx
        obtain ⟨h1, h2⟩ := eval_test he
        simp only [Bool.and_eq_true, decide_eq_true_eq] at h1
        simp only [Tr.eval, Option.some.injEq] at h2
        obtain ⟨⟨⟨hte, hok⟩, h3⟩, h4⟩ := h1
        have := nat_of_beq hte
        subst this
        have row := c.ty.row hok
        obtain ⟨ro, g', tt, vs, hi, hg, ⟨ad, cap, hx, hc, had⟩, hx2⟩ := hx
        obtain ⟨b, off, rfl⟩ := had (by omega)
        refine ⟨_, .pointer (some ⟨b, off + n.toNat * (E.ty t').size, none⟩), h2.symm, ?_, ⟨ro, g', tt, vs, hi, hg, ⟨_, _, rfl⟩, fun hgg => ?_⟩⟩
        · simp [execOp, ho, hx, hy', run_indexAt hu row _ _ _ k n h3 h4, Addr.add_lit]
        · obtain ⟨rfl, hle, ad2, hx3, hx4⟩ := hx2 hgg
          rw [hx] at hx3
          simp only [Value.slice.injEq, true_and] at hx3
          obtain ⟨rfl, rfl⟩ := hx3
          have := hx4 (by omega)
          simp only [Option.some.injEq, Addr.mk.injEq, and_true] at this
          obtain ⟨rfl, rfl⟩ := this
          exact ⟨by omega, by simp [Nat.add_mul]⟩
      · simp [Tr.eval] at he
    · rename_i m e hd
      obtain ⟨hu, _, hce, hinfo, hm2⟩ := (c.ty.row (ok_of hd (by simp))).array hd
      obtain ⟨h1, h2⟩ := eval_test he
      simp only [Bool.and_eq_true, decide_eq_true_eq] at h1
      obtain ⟨⟨hok, h3⟩, h4⟩ := h1
      have hce2 := (c.ty.row hok).cellsOf
      have fin : ∀ (b off : Nat) (v : V), a.eval x = .pointer (some ⟨b, off, none⟩) → r = .ok v [] → Rep E.ty w (Own Z h β) v (RefRep E.ty h β) (.pointer (some ⟨b, off + n.toNat * (E.ty e).size, none⟩)) → Gives E P Z h β w a o r := by
        intro b off v hv hr hrep
        refine ⟨v, _, hr, ?_, hrep⟩
        rw [← hce2]
        simp [execOp, ho, hv, hy', Instr.indexAt, asIntOf, run_underlying hu, Instr.sureAddr, h3, h4, cells_info hinfo, Addr.add_lit]
      split at h2
      · rename_i cs hv
        simp only [Tr.eval, Option.some.injEq] at h2
        rw [hv] at hx
        obtain ⟨b, off, l, hx, q1, q2, q3, q4⟩ := hx
        exact fin b off _ hx h2.symm ⟨b, _, _, rfl, q1, q2, q3.drop _, q4.drop _⟩
      · rename_i i j hv
        simp only [Tr.eval, Option.some.injEq] at h2
        rw [hv] at hx
        obtain ⟨q1, hx⟩ := hx
        exact fin _ j _ hx h2.symm ⟨q1, rfl⟩
      · rename_i i g k2 j hv
        simp only [Tr.eval, Option.some.injEq] at h2
        rw [hv] at hx
        obtain ⟨ro, g', t', vs, hi, hg, ⟨pb, po, hp⟩, q2⟩ := hx
        refine fin pb po _ hp h2.symm ⟨ro, g', t', vs, hi, hg, ⟨_, _, rfl⟩, fun hgg => ?_⟩
        obtain ⟨q3, q4⟩ := q2 hgg
        rw [hp] at q4
        simp only [Value.pointer.injEq, Option.some.injEq, Addr.mk.injEq, and_true] at q4
        obtain ⟨rfl, rfl⟩ := q4
        exact ⟨q3, by rw [Nat.add_assoc]⟩
      · simp [Tr.eval] at h2
    · simp [Tr.eval] at he
  · simp [Tr.eval] at he

/- Conversions, built-in functions. -/
theorem RepSeq.bytes {T : TypeId → Ty} {O : Nat → Prop} {t b : Nat} (hk : (T t).kinds = [.int .u8]) (ha : (T t).agg = false) (hs : (T t).size = 1) : ∀ {vs : List V} {off : Nat}, RepSeq T w O vs t b off → ∀ i, i < vs.length → w.cell? ⟨b, off + i, none⟩ = some (.int .u8 ((vs.map V.toI).getD i 0))
  | [], _, _, i, hi => by simp at hi
  | v :: vs, off, h, i, hi => by
    obtain ⟨⟨f1, _⟩, ⟨cs, h3, h4, h5⟩, h6⟩ := h
    cases i with
    | zero =>
      rw [hs] at h3
      match cs, h3, h4, h5 with
      | [c], _, h4, h5 =>
        have := h4 0 c rfl
        rw [this]
        rw [ha] at h5
        have hv : ∃ n, v = .int .u8 n := by
          cases v <;> simp [isFormT, hk, ha, isForm] at f1
          subst f1
          exact ⟨_, rfl⟩
        obtain ⟨n, rfl⟩ := hv
        rw [show c = _ from h5]
        simp [V.toI]
    | succ i =>
      have := RepSeq.bytes hk ha hs h6 i (by simpa using hi)
      rw [hs] at this
      rw [show off + (i + 1) = off + 1 + i from by omega, this]
      simp
theorem bytesOf_eq (vs : List V) : bytesOf vs = (vs.map V.toI).map (fun n => UInt8.ofNat n.toNat) := by
  induction vs with
  | nil => rfl
  | cons v vs ih => simp [bytesOf, ih]
theorem op_convert (c : Ctx E P Z h view β w s a) {src dst : TypeId} {x : Operand} (ho : o.op = .convert src dst x) (he : (evOp E view s fr o).eval = some r) : Gives E P Z h β w a o r := by
  simp only [evOp, ho] at he
  have hx := c.val x
  split at he
  · rename_i k k' n hd hv
    split at he
    · rename_i hs
      simp only [Tr.eval, Option.some.injEq] at he
      rw [hv] at hx
      have hx' : a.eval x = .int k' n := hx
      have h1 := (c.ty.row hs).under
      obtain ⟨h2, _⟩ := (c.ty.row (ok_of hd (by simp))).int hd
      exact ⟨_, _, he.symm, by obtain ⟨d, hd1⟩ := Option.isSome_iff_exists.1 h1; simp [execOp, ho, hx', convert, run_underlying hd1, run_underlying h2, Conv.intToInt], rfl⟩
    · simp [Tr.eval] at he
  · rename_i b hd hv
    split at he
    · rename_i hs
      simp only [Tr.eval, Option.some.injEq] at he
      rw [hv] at hx
      obtain ⟨sb, hx, hsb⟩ := hx
      obtain ⟨h1, _⟩ := (c.ty.row (ok_of hd (by simp))).str hd
      obtain ⟨h2, _⟩ := (c.ty.row (ok_of hs (by simp))).str hs
      exact ⟨_, .string sb, he.symm, by simp [execOp, ho, hx, convert, run_underlying h1, run_underlying h2], ⟨sb, rfl, hsb⟩⟩
    · simp [Tr.eval] at he
  · rename_i v hd hn
    split at he
    · rename_i e hs
      split at he
      · rename_i t' vs hde hels
        obtain ⟨h1, _⟩ := (c.ty.row (ok_of hd (by simp))).str hd
        obtain ⟨h2, _⟩ := (c.ty.row (ok_of hs (by simp))).slice hs
        have rowe := c.ty.row (ok_of hde (by simp))
        obtain ⟨h3, h4, h5⟩ := rowe.int hde
        split at he
        · rename_i hte
          have := nat_of_beq hte
          subst this
          simp only [Tr.eval, Option.some.injEq] at he
          obtain ⟨ad, cap, hx, _, hx2⟩ := els_sound c.cx c.sees hx hels
          rcases hx2 with rfl | ⟨b, off, rfl, hb, hs2⟩
          · refine ⟨_, .string ByteArray.empty, he.symm, ?_, ⟨_, rfl, rfl⟩⟩
            cases ad with
            | none => simp [execOp, ho, hx, run_convert_bytes_nil (P := P) w src t' h2 h3 _ cap dst h1]
            | some ad => simp [execOp, ho, hx, convert, run_underlying h1, run_underlying h2, run_underlying h3, Conv.bytesToString, loadCells, loadCellsFrom]
          · have hsz := (rowe.one h4).1
            have hc := RepSeq.bytes (w := w) h5 h4 hsz hs2
            have hrun := run_convert_bytes_arg (P := P) w src t' h2 h3 b off vs.length cap (vs.map V.toI) (by simp) hc dst h1
            refine ⟨_, .string (strOfNums (vs.map V.toI)), he.symm, by simp [execOp, ho, hx, hrun], ⟨_, rfl, by rw [strOfNums_data, bytesOf_eq]⟩⟩
        · simp [Tr.eval] at he
      · simp [Tr.eval] at he
    · simp [Tr.eval] at he
  · simp [Tr.eval] at he
end
end Go.AH
