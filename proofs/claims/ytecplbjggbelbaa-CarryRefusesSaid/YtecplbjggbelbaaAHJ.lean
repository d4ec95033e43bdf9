/- Every operation, for the walk. -/
import Derived.Test.YtecplbjggbelbaaAHI
namespace Go.AH
open Go Go.RowKit

section
variable {E : Env} {P : Program} {Z : Nat → Prop} {h view : Nat → Ob} {β : Nat → Loc} {w : World} {s : Nat → V} {a : Act} {fr : Nat} {o : Oper} {r : Rs} {next : Act → World → Prop} {Q : Exit → Act → World → Prop}

theorem Does.wp (d : Does E P Z h β w a fr o r) (hc : Comes2 E Z h β w a fr o r next Q) : o.wp P a w next Q := by
  obtain ⟨v, u, x, w', β', rfl, hr, hd⟩ := d
  have hn := hc.1 v u x w' β' rfl hd
  unfold Oper.wp
  rcases hr with hr | ⟨hr, rfl⟩
  · rw [hr]; exact hn
  · rw [hr]; exact hn
theorem op_call (c : Ctx E P Z h view β w s a) (hfr : ∀ i, fr ≤ i → i < fr + 64 → h i = .dead) (hC : ∀ g, Holds E.ty E.glob P g (E.C g)) {cl : Call} {f : Operand} (ho : o.op = .call cl) (hf : cl.callee = .value f)
    (he : (evOp E view s fr o).eval = some r) (hc : Comes2 E Z h β w a fr o r next Q) : o.wp P a w next Q := by
  obtain ⟨callee, args, argTypes⟩ := cl
  simp only at hf
  subst hf
  simp only [evOp, ho] at he
  have hx := c.val f
  split at he
  · rename_i g p q hv
    rw [hv] at hx
    obtain ⟨p', q', hfe, hp, hq⟩ := hx
    have hargs : RepL E.ty w (Own Z h β) (p ++ args.toList.map (ev E s) ++ q) (RefRep E.ty h β) (p' ++ args.map a.eval ++ q').toList := by
      have := (hp.append (c.vals args.toList)).append hq
      simpa using this
    have key := call_sound c.ty c.cx c.sees hfr (hC g) hargs he
    have hrun : (execOp a.eval o).run P w = (callFunc g (p' ++ args.map a.eval ++ q')).run P w := by
      simp [execOp, ho, resolve, hfe, Deferred.ofValue, invoke]
    unfold Oper.wp
    rw [hrun]
    rcases key with ⟨k1, k2⟩ | ⟨x, w', k1, v, u, β', rfl, hd⟩
    · rw [k1, Oper.upon_enter]
      refine k2.mono (fun e w' hend => ?_)
      cases e with
      | returned x =>
        obtain ⟨v, u, β', rfl, hd⟩ := hend
        exact hc.1 v u x w' β' rfl hd
      | panicked chain =>
        obtain ⟨v, u, x, β', rfl, hnr, rfl, hd⟩ := hend
        exact hc.2 v u x w' β' rfl hnr hd
      | outgrown => exact hend.elim
    · rw [k1, Oper.upon_value]
      exact hc.1 v u x w' β' rfl hd
  · simp [Tr.eval] at he
theorem op_panic (c : Ctx E P Z h view β w s a) {x : Operand} (ho : o.op = .panic x) (he : (evOp E view s fr o).eval = some r) (hc : Comes2 E Z h β w a fr o r next Q) : o.wp P a w next Q := by
  simp only [evOp, ho] at he
  have hx := c.val x
  split at he
  · rename_i t v hv
    split at he
    · rename_i hnr
      simp only [Tr.eval, Option.some.injEq] at he
      rw [hv] at hx
      have hx0 := hx
      obtain ⟨y, hxe, hy⟩ := hx
      unfold Oper.wp
      have hrun : (execOp a.eval o).run P w = .halt (.panic (a.eval x)) w := by
        rw [hxe]
        simp [execOp, ho, hxe, Instr.panic, goPanic]
      rw [hrun]
      exact hc.2 _ _ _ w β he.symm (by simpa [V.noRef, V.refs] using hnr) ⟨c.cx, Stp.refl, hx0, fun i hi => absurd rfl hi⟩
    · simp [Tr.eval] at he
  · simp [Tr.eval] at he
theorem op_assign (c : Ctx E P Z h view β w s a) {x : Operand} (hx : x ≠ .const (.slice none 0 0)) (ho : o.op = .assign x) (he : (evOp E view s fr o).eval = some r) : Gives E P Z h β w a o r := by
  have he' : (Tr.ret (Rs.ok (ev E s x) [])).eval = some r := by
    cases x with
    | const v =>
      cases v with
      | slice ad n cp =>
        cases ad with
        | none =>
          cases n with
          | zero =>
            cases cp with
            | zero => exact absurd rfl hx
            | succ cp => simpa only [evOp, ho] using he
          | succ n => simpa only [evOp, ho] using he
        | some ad => simpa only [evOp, ho] using he
      | _ => simpa only [evOp, ho] using he
    | _ => simpa only [evOp, ho] using he
  simp only [Tr.eval, Option.some.injEq] at he'
  exact ⟨_, _, he'.symm, by simp [execOp, ho], c.val x⟩
theorem op_sound (c : Ctx E P Z h view β w s a) (hfr : ∀ i, fr ≤ i → i < fr + 64 → h i = .dead) (hC : ∀ g, Holds E.ty E.glob P g (E.C g))
    (he : (evOp E view s fr o).eval = some r) (hc : Comes2 E Z h β w a fr o r next Q) : o.wp P a w next Q := by
  have hf0 : h fr = .dead := hfr fr (Nat.le_refl _) (by omega)
  cases ho : o.op with
  | move x => exact ((op_move c ho he).does c).wp hc
  | assign x =>
    by_cases hx : x = .const (.slice none 0 0)
    · subst hx; exact (op_nil c hf0 ho he).wp hc
    · exact ((op_assign c hx ho he).does c).wp hc
  | pick x y z => exact ((op_pick c ho he).does c).wp hc
  | alloc t => exact (op_alloc c hf0 ho he).wp hc
  | box t x => exact (op_box c hf0 ho he).wp hc
  | build t parts => exact ((op_build c ho he).does c).wp hc
  | buildSlice t len parts => exact (op_buildSlice c hf0 ho he).wp hc
  | load t x => exact ((op_load c ho he).does c).wp hc
  | store t x y =>
    cases hi : ev E s x with
    | box i j => exact (op_store_box c hi ho he).wp hc
    | elt i g k j => exact (op_store_elt c hi ho he).wp hc
    | _ => simp [evOp, ho, hi, Tr.eval] at he
  | binOp op t x y ty => exact ((op_bin c ho he).does c).wp hc
  | unOp op t x => exact ((op_un c ho he).does c).wp hc
  | convert src dst x => exact ((op_convert c ho he).does c).wp hc
  | makeFunc fn x y =>
    cases fn with
    | func f => exact ((op_makeFunc c ho he).does c).wp hc
    | _ => simp [evOp, ho, Tr.eval] at he
  | makeMap t x =>
    cases x with
    | none => exact (op_makeMap c hf0 ho he).wp hc
    | some x => simp [evOp, ho, Tr.eval] at he
  | makeSlice t x y => exact (op_makeSlice c hf0 ho he).wp hc
  | slice t x lo hi mx =>
    cases mx with
    | none => exact ((op_slice c ho he).does c).wp hc
    | some x => simp [evOp, ho, Tr.eval] at he
  | fieldAddr t x f => exact ((op_fieldAddr c ho he).does c).wp hc
  | field t x f => exact ((op_field c ho he).does c).wp hc
  | indexAddr t x y => exact ((op_indexAddr c ho he).does c).wp hc
  | index t x y => exact ((op_index c ho he).does c).wp hc
  | lookup t x y ok => exact ((op_lookup c ho he).does c).wp hc
  | mapUpdate t m k x => exact (op_mapUpdate c ho he).wp hc
  | extract x n => exact ((op_extract c ho he).does c).wp hc
  | call cl =>
    cases hcl : cl.callee with
    | builtin b => exact (op_builtin c ho hcl he).wp hc
    | value f => exact op_call c hfr hC ho hcl he hc
    | invoke rc n => simp [evOp, ho, hcl, Tr.eval] at he
  | panic x => exact op_panic c ho he hc
  | _ => simp [evOp, ho, Tr.eval] at he
end
end Go.AH
