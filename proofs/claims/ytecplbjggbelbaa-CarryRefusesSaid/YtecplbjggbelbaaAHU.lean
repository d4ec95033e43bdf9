/- Each operation that only computes or reads, part 2. -/
import Derived.Test.YtecplbjggbelbaaAHQ
namespace Go.AH
open Go Go.RowKit

section
variable {E : Env} {P : Program} {Z : Nat → Prop} {h view : Nat → Ob} {β : Nat → Loc} {w : World} {s : Nat → V} {a : Act} {fr : Nat} {o : Oper} {r : Rs}

theorem op_makeFunc (c : Ctx E P Z h view β w s a) {f : FuncId} {x y : Array Operand} (ho : o.op = .makeFunc (.func f) x y) (he : (evOp E view s fr o).eval = some r) : Gives E P Z h β w a o r := by
  simp only [evOp, ho, Tr.eval, Option.some.injEq] at he
  exact ⟨_, .func (.func f) (x.map a.eval) (y.map a.eval), he.symm, by simp [execOp, ho, Instr.makeFunc], ⟨_, _, rfl, by simpa using c.vals x.toList, by simpa using c.vals y.toList⟩⟩

theorem dec3 {a b c : Bool} (h : (a && b && c) = true) : a = true ∧ b = true ∧ c = true := by simpa [and_assoc] using h
theorem intOp {x : Option Operand} {d n : Int} (c : Ctx E P Z h view β w s a) (he : loI E s x d = some n) : (x = none ∧ n = d) ∨ ∃ y k, x = some y ∧ a.eval y = .int k n := by
  unfold loI at he
  split at he
  · rename_i y
    have hx := c.val y
    split at he
    · rename_i k m hq
      rw [hq] at hx
      simp at he
      subst he
      exact .inr ⟨y, k, rfl, hx⟩
    · cases he
  · simp at he
    exact .inl ⟨rfl, he.symm⟩
/-- A slice's bounds, as they are given. -/
theorem run_bounds {isS : Bool} {len cap : Nat} {lo hi : Option Operand} {l hh : Int} (c : Ctx E P Z h view β w s a)
    (hl : loI E s lo 0 = some l) (hhi : loI E s hi len = some hh) (h0 : 0 ≤ l) (h1 : l ≤ hh) (h2 : hh ≤ cap) :
    (Instr.sliceBounds isS len cap (lo.map a.eval) (hi.map a.eval) none).run P w = .ok (l.toNat, hh.toNat, cap) w := by
  have h3 : (hh.toNat : Int) = hh := Int.toNat_of_nonneg (by omega)
  have h4 : 0 ≤ hh := by omega
  rcases intOp c hl with ⟨rfl, rfl⟩ | ⟨y, k', rfl, hy⟩
  · rcases intOp c hhi with ⟨rfl, rfl⟩ | ⟨x, k, rfl, hx⟩
    · simp [Instr.sliceBounds]
    · simp only [Option.map_none, Option.map_some, hx]
      simp [Instr.sliceBounds, run_sliceBound, h4, h2]
  · rcases intOp c hhi with ⟨rfl, rfl⟩ | ⟨x, k, rfl, hx⟩
    · simp only [Option.map_none, Option.map_some, hy]
      simp [Instr.sliceBounds, run_sliceBound, h0, h1]
    · simp only [Option.map_some, hx, hy]
      have hb := run_sliceBound (P := P) w k' l hh.toNat .sliceB h0 (by omega)
      have hb2 : ∀ code, (Instr.sliceBound (.int k hh) cap code).run P w = .ok hh.toNat w := fun code => run_sliceBound (P := P) w k hh cap code h4 h2
      simp [Instr.sliceBounds, hb2, hb]
theorem extract_list (b : ByteArray) (i j : Nat) : (b.extract i j).data.toList = (b.data.toList.drop i).take (j - i) := by
  rw [ByteArray.data_extract, Array.toList_extract]
theorem nat_of_beq {a b : Nat} (h : Nat.beq a b = true) : a = b := Nat.eq_of_beq_eq_true h
theorem op_slice (c : Ctx E P Z h view β w s a) {t : TypeId} {x : Operand} {lo hi : Option Operand} (ho : o.op = .slice t x lo hi none) (he : (evOp E view s fr o).eval = some r) : Gives E P Z h β w a o r := by
  simp only [evOp, ho] at he
  have hx := c.val x
  generalize hL : loI E s lo 0 = L at he
  split at he
  · rename_i b hd hb
    rw [hb] at hx
    obtain ⟨sb, hx, hsb⟩ := hx
    have ht : (E.ty t).ok = true := by unfold Ty.ok; rw [hd]
    obtain ⟨hu, _⟩ := (c.ty.row ht).str hd
    generalize hH : loI E s hi b.length = H at he
    cases L with
    | none => simp [Tr.eval] at he
    | some l =>
      cases H with
      | none => simp [Tr.eval] at he
      | some hh =>
        obtain ⟨h1, h2⟩ := eval_test he
        obtain ⟨h3, h4, h5⟩ := dec3 h1
        simp only [decide_eq_true_eq] at h3 h4 h5
        simp only [Tr.eval, Option.some.injEq] at h2
        have hsz : sb.size = b.length := by rw [← hsb]; rfl
        have hrun := run_bounds (P := P) (isS := false) (len := sb.size) (cap := sb.size) c hL (by rw [hsz]; exact hH) h3 h4 (by omega)
        refine ⟨_, .string (sb.extract l.toNat hh.toNat), h2.symm, ?_, ⟨_, rfl, by rw [extract_list, hsb]⟩⟩
        simp only [execOp, ho, Option.map_none]
        rw [Sem.run_bind, run_sliceAt_string (P := P) w t _ _ _ _ hu, hx]
        simp [Instr.slice, run_underlying hu, hrun]
  · rename_i e hd
    have ht : (E.ty t).ok = true := by unfold Ty.ok; rw [hd]
    obtain ⟨hu, _⟩ := (c.ty.row ht).slice hd
    split at he
    · rename_i len hq hlen
      have row := c.ty.row hq
      generalize hH : loI E s hi len = H at he
      cases L with
      | none => simp [Tr.eval] at he
      | some l =>
        cases H with
        | none => simp [Tr.eval] at he
        | some hh =>
          obtain ⟨h1, h2⟩ := eval_test he
          obtain ⟨h3, h4, h5⟩ := dec3 h1
          simp only [decide_eq_true_eq] at h3 h4 h5
          have fin : ∀ (ad : Option Addr) (cap : Nat) (v : V), a.eval x = .slice ad len cap → len ≤ cap → r = .ok v [] →
              Rep E.ty w (Own Z h β) v (RefRep E.ty h β) (sliced ad l.toNat hh.toNat cap (E.ty e).size) → Gives E P Z h β w a o r := by
            intro ad cap v hv hc hr hrep
            refine ⟨v, _, hr, ?_, hrep⟩
            have hrun := run_bounds (P := P) (isS := true) (cap := cap) c hL hH h3 h4 (by omega)
            have he2 : P.elem t = e := by simp [Program.elem, hu]
            simp only [execOp, ho, Option.map_none]
            rw [Sem.run_bind, run_sliceAt_slice (P := P) w t _ _ _ _ (by rw [he2]; exact hu), hv]
            simp [Instr.slice, run_underlying hu, hrun, row.size, sliced]
          split at h2
          · rename_i t' vs hv
            rw [hv] at hx hlen
            simp [lenV] at hlen
            subst hlen
            split at h2
            · rename_i hte
              simp only [Tr.eval, Option.some.injEq] at h2
              obtain ⟨ad, cap, hx, hc, hx2⟩ := hx
              refine fin ad cap _ hx hc h2.symm ?_
              by_cases hem : vs = []
              · subst hem
                have hl0 : l.toNat = 0 := by simp at h5; omega
                have hh0 : hh.toNat = 0 := by simp at h5; omega
                rw [hl0, hh0]
                exact ⟨_, _, rfl, Nat.zero_le _, .inl (by simp)⟩
              · rcases hx2 with hx2 | ⟨b, off, rfl, hb, hO, hs⟩
                · exact absurd hx2 hem
                · have hte2 : t' = e := by
                    rcases Bool.or_eq_true_iff.1 hte with h6 | h6
                    · exact nat_of_beq h6
                    · exact absurd (by simpa using h6) hem
                  subst hte2
                  have hlen2 : ((vs.drop l.toNat).take (hh.toNat - l.toNat)).length = hh.toNat - l.toNat := by simp; omega
                  refine ⟨_, cap - l.toNat, by rw [hlen2]; rfl, by rw [hlen2]; omega, ?_⟩
                  by_cases hz : hh.toNat - l.toNat = 0
                  · left; rw [hz]; simp
                  · right
                    refine ⟨b, off + l.toNat * (E.ty t').size, ?_, hb, hO, RepSeq.part vs _ _ hs⟩
                    rw [if_neg (by omega)]
                    simp [Addr.add_lit]
            · simp [Tr.eval] at h2
          · rename_i t' i g n hv
            rw [hv] at hx hlen
            simp [lenV] at hlen
            subst hlen
            split at h2
            · rename_i hte
              have hte2 : t' = e := nat_of_beq hte
              subst hte2
              simp only [Tr.eval, Option.some.injEq] at h2
              obtain ⟨ro, g', tt, vs, hi, hg, ⟨ad, cap, hx, hc, had⟩, hx2⟩ := hx
              refine fin ad cap _ hx hc h2.symm ⟨ro, g', tt, vs, hi, hg, ⟨_, cap - l.toNat, rfl, by omega, fun hne => ?_⟩, fun hgg => ?_⟩
              · obtain ⟨b, off, rfl⟩ := had (by omega)
                refine ⟨b, off + l.toNat * (E.ty t').size, ?_⟩
                split <;> first | omega | (simp [Addr.add_lit]; done)
              · obtain ⟨rfl, rfl, hx3⟩ := hx2 hgg
                rw [hx] at hx3
                simp only [Value.slice.injEq, true_and] at hx3
                obtain ⟨rfl, rfl⟩ := hx3
                refine ⟨rfl, by omega, _, rfl, fun hne => ?_⟩
                have hob := c.cx.ob i
                rw [hi] at hob
                obtain ⟨_, hob | ⟨hn, _⟩⟩ := hob
                · rw [hob.2.2] at hne; simp at hne
                · simp only [Loc.addr, hn]
                  rw [if_neg (by omega)]
                  simp [Addr.add_lit]
            · simp [Tr.eval] at h2
          · rename_i t' i g o2 n hv
            rw [hv] at hx hlen
            simp [lenV] at hlen
            subst hlen
            split at h2
            · rename_i hte
              have hte2 : t' = e := nat_of_beq hte
              subst hte2
              simp only [Tr.eval, Option.some.injEq] at h2
              obtain ⟨ro, g', tt, vs, hi, hg, ⟨ad, cap, hx, hc, had⟩, hx2⟩ := hx
              refine fin ad cap _ hx hc h2.symm ⟨ro, g', tt, vs, hi, hg, ⟨_, cap - l.toNat, rfl, by omega, fun hne => ?_⟩, fun hgg => ?_⟩
              · obtain ⟨b, off, rfl⟩ := had (by omega)
                refine ⟨b, off + l.toNat * (E.ty t').size, ?_⟩
                split <;> first | omega | (simp [Addr.add_lit]; done)
              · obtain ⟨rfl, hle, ad2, hx3, hx4⟩ := hx2 hgg
                rw [hx] at hx3
                simp only [Value.slice.injEq, true_and] at hx3
                obtain ⟨rfl, rfl⟩ := hx3
                have hcc : (β i).cap - (o2 + l.toNat) = (β i).cap - o2 - l.toNat := by omega
                refine ⟨rfl, by omega, ?_⟩
                rw [hcc]
                refine ⟨_, rfl, fun hne => ?_⟩
                rw [if_neg (by omega)]
                rw [hx4 (by omega)]
                simp [Addr.add_lit, Nat.add_mul]
            · simp [Tr.eval] at h2
          · simp [Tr.eval] at h2
    · simp [Tr.eval] at he
  · simp [Tr.eval] at he
end
end Go.AH
