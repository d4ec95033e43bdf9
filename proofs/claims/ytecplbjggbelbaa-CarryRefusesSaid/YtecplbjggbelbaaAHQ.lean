/- Each operation that only computes or reads. -/
import Derived.Test.YtecplbjggbelbaaAHP
namespace Go.AH
open Go Go.RowKit

structure Ctx (E : Env) (P : Program) (Z : Nat → Prop) (h view : Nat → Ob) (β : Nat → Loc) (w : World) (s : Nat → V) (a : Act) : Prop where
  ty : TyOk P E.ty
  cx : Cx E.ty E.glob Z h β w
  sees : Sees view h
  slots : SRep E.ty w (Own Z h β) (RefRep E.ty h β) s a

section
variable {E : Env} {P : Program} {Z : Nat → Prop} {h view : Nat → Ob} {β : Nat → Loc} {w : World} {s : Nat → V} {a : Act} {fr : Nat} {o : Oper} {r : Rs}

/-- The operation gives a value and leaves the world alone. -/
def Gives (E : Env) (P : Program) (Z : Nat → Prop) (h : Nat → Ob) (β : Nat → Loc) (w : World) (a : Act) (o : Oper) (r : Rs) : Prop :=
  ∃ v x, r = .ok v [] ∧ (execOp a.eval o).run P w = .ok (.value x) w ∧ Rep E.ty w (Own Z h β) v (RefRep E.ty h β) x

theorem Ctx.val (c : Ctx E P Z h view β w s a) (x : Operand) : Rep E.ty w (Own Z h β) (AH.ev E s x) (RefRep E.ty h β) (a.eval x) := c.slots.ev c.cx.glob x
theorem Ctx.vals (c : Ctx E P Z h view β w s a) : ∀ (xs : List Operand), RepL E.ty w (Own Z h β) (xs.map (AH.ev E s)) (RefRep E.ty h β) (xs.map a.eval)
  | [] => rfl
  | x :: xs => ⟨_, _, rfl, c.val x, c.vals xs⟩
theorem ptr_box {T : TypeId → Ty} (i j : Nat) (z : Value) (hz : RefRep T h β (.box i j) z) : ∃ p, z = .pointer (some p) := ⟨_, hz.2⟩

theorem op_move (c : Ctx E P Z h view β w s a) {x : Operand} (ho : o.op = .move x) (he : (evOp E view s fr o).eval = some r) : Gives E P Z h β w a o r := by
  simp only [evOp, ho, Tr.eval, Option.some.injEq] at he
  exact ⟨_, _, he.symm, by simp [execOp, ho], c.val x⟩
theorem op_pick (c : Ctx E P Z h view β w s a) {x y z : Operand} (ho : o.op = .pick x y z) (he : (evOp E view s fr o).eval = some r) : Gives E P Z h β w a o r := by
  simp only [evOp, ho] at he
  split at he
  · rename_i t ht
    have hx := c.val x
    rw [ht] at hx
    have hb : a.eval x = .bool t := hx
    cases t
    · simp only [Tr.eval, Option.some.injEq] at he
      exact ⟨_, _, he.symm, by simp [execOp, ho, hb, asBool], c.val z⟩
    · simp only [Tr.eval, Option.some.injEq] at he
      exact ⟨_, _, he.symm, by simp [execOp, ho, hb, asBool], c.val y⟩
  · simp [Tr.eval] at he
theorem op_extract (c : Ctx E P Z h view β w s a) {x : Operand} {n : Nat} (ho : o.op = .extract x n) (he : (evOp E view s fr o).eval = some r) : Gives E P Z h β w a o r := by
  simp only [evOp, ho] at he
  split at he
  · rename_i vs ht
    have hx := c.val x
    rw [ht] at hx
    obtain ⟨arr, hb, hl⟩ := hx
    cases hn : vs[n]? with
    | none => simp [hn, optTr, Tr.eval] at he
    | some v =>
      simp only [hn, optTr, Tr.eval, Option.some.injEq] at he
      obtain ⟨y, h1, h2⟩ := RepL.get n v hl hn
      have h1' : arr[n]? = some y := by simpa using h1
      exact ⟨v, y, he.symm, by simp [execOp, ho, hb, Instr.extract, h1'], h2⟩
  · simp [Tr.eval] at he
theorem op_load (c : Ctx E P Z h view β w s a) {t : TypeId} {x : Operand} (ho : o.op = .load t x) (he : (evOp E view s fr o).eval = some r) : Gives E P Z h β w a o r := by
  simp only [evOp, ho] at he
  cases ht : (E.ty t).ok with
  | false => rw [ht] at he; exact absurd he (fun h => by cases h)
  | true =>
    rw [ht] at he
    simp only at he
    cases hq : cellsAt E.ty view (ev E s x) with
    | none => rw [hq] at he; exact absurd he (fun h => by cases h)
    | some cs =>
      rw [hq] at he
      simp only [optTr] at he
      obtain ⟨b, off, l, hx, hl, hr⟩ := cellsAt_sound c.ty c.cx c.sees (c.val x) hq
      obtain ⟨r1, r2⟩ := run_loadAt (P := P) c.ty ht hl
      have hlen := hr.length
      cases ha : (E.ty t).agg with
      | true =>
        simp only [ha] at he
        cases hs : Nat.ble (E.ty t).size cs.length with
        | false => simp [hs, Tr.eval] at he
        | true =>
          simp only [hs, Tr.eval, Option.some.injEq] at he
          have hs' : (E.ty t).size ≤ l.length := by rw [hlen]; exact Nat.le_of_ble_eq_true hs
          exact ⟨_, .agg (l.take (E.ty t).size).toArray, he.symm, by simp [execOp, ho, hx, r1 ha hs'], ⟨_, rfl, by simpa using hr.take _⟩⟩
      | false =>
        simp only [ha] at he
        cases cs with
        | nil => simp [Tr.eval] at he
        | cons u cs =>
          simp only [Tr.eval, Option.some.injEq] at he
          obtain ⟨y, rest, rfl, h1, _⟩ := hr
          exact ⟨_, _, he.symm, by simp [execOp, ho, hx, r2 ha y rest rfl], h1⟩
theorem op_un (c : Ctx E P Z h view β w s a) {op : UnOp} {t : TypeId} {x : Operand} (ho : o.op = .unOp op t x) (he : (evOp E view s fr o).eval = some r) : Gives E P Z h β w a o r := by
  simp only [evOp, ho] at he
  have hx := c.val x
  split at he
  · rename_i b hb
    rw [hb] at hx
    have hx' : a.eval x = .bool b := hx
    simp only [Tr.eval, Option.some.injEq] at he
    exact ⟨_, _, he.symm, by simp [execOp, ho, hx', Op.unary], rfl⟩
  · rename_i k n hb
    rw [hb] at hx
    have hx' : a.eval x = .int k n := hx
    simp only [Tr.eval, Option.some.injEq] at he
    exact ⟨_, _, he.symm, by simp [execOp, ho, hx', Op.unary, Op.intArith], rfl⟩
  · simp [Tr.eval] at he
theorem eqGuard_not {op : BinOp} {t : TypeId} {ox oy : Operand} {x y : Value} (h1 : op ≠ .eql) (h2 : op ≠ .neq) : eqGuard op t ox oy x y = pure () := by
  cases op <;> first | rfl | exact absurd rfl h1 | exact absurd rfl h2
theorem eqGuard_int {op : BinOp} {t : TypeId} {ox oy : Operand} {k k' : IntKind} {x y : Int} : eqGuard op t ox oy (.int k x) (.int k' y) = pure () := by cases op <;> rfl
theorem eqGuard_str {op : BinOp} {t : TypeId} {ox oy : Operand} {x y : ByteArray} : eqGuard op t ox oy (.string x) (.string y) = pure () := by cases op <;> rfl
theorem op_bin (c : Ctx E P Z h view β w s a) {op : BinOp} {t ty : TypeId} {x y : Operand} (ho : o.op = .binOp op t x y ty) (he : (evOp E view s fr o).eval = some r) : Gives E P Z h β w a o r := by
  simp only [evOp, ho] at he
  obtain ⟨v, h1, h2⟩ := eval_bind he
  simp only [Tr.eval, Option.some.injEq] at h2
  have hx := c.val x
  have hy := c.val y
  have fin : ∀ z, (binOp op t (a.eval x) (a.eval y)).run P w = .ok z w → (eqGuard op t x y (a.eval x) (a.eval y)).run P w = .ok () w → Rep E.ty w (Own Z h β) v (RefRep E.ty h β) z → Gives E P Z h β w a o r :=
    fun z hz hg hr => ⟨v, z, h2.symm, by simp [execOp, ho, hz, hg], hr⟩
  unfold binV at h1
  split at h1
  · rename_i k p k' q e1 e2
    rw [e1] at hx
    rw [e2] at hy
    have hx' : a.eval x = .int k p := hx
    have hy' : a.eval y = .int k' q := hy
    have hg : (eqGuard op t x y (a.eval x) (a.eval y)).run P w = .ok () w := by rw [hx', hy', eqGuard_int]; rfl
    split at h1
    · obtain ⟨h3, h4⟩ := eval_test h1
      simp only [Tr.eval, Option.some.injEq] at h4
      subst h4
      refine fin _ ?_ hg rfl
      rw [hx', hy']
      show Sem.run P (if q < 0 then _ else _) w = _
      rw [if_neg (by simpa using h3)]
      rfl
    · obtain ⟨h3, h4⟩ := eval_test h1
      simp only [Tr.eval, Option.some.injEq] at h4
      subst h4
      refine fin _ ?_ hg rfl
      rw [hx', hy']
      show Sem.run P (if q < 0 then _ else _) w = _
      rw [if_neg (by simpa using h3)]
      rfl
    · rename_i n1 n2
      split at h1
      · rename_i hk
        have hkk : k = k' := by simpa using hk
        subst hkk
        obtain ⟨z, h3, h4⟩ := run_binInt (T := E.ty) (w := w) (O := Own Z h β) (P := P) t n1 n2 h1
        exact fin z (by rw [hx', hy']; exact h3) hg (h4 _)
      · simp [Tr.eval] at h1
  · rename_i p q e1 e2
    rw [e1] at hx
    rw [e2] at hy
    obtain ⟨b1, hx', h5⟩ := hx
    obtain ⟨b2, hy', h6⟩ := hy
    have hg : (eqGuard op t x y (a.eval x) (a.eval y)).run P w = .ok () w := by rw [hx', hy', eqGuard_str]; rfl
    obtain ⟨z, h3, h4⟩ := run_binStr (T := E.ty) (w := w) (O := Own Z h β) (P := P) t t (E.ty t) h5 h6 (by unfold binV; exact h1)
    exact fin z (by rw [hx', hy']; exact h3) hg (h4 _)
  · rename_i n1 n2
    have key : ∀ b, eqT (E.ty t) (ev E s x) (ev E s y) = some b → (E.ty t).ok = true ∧ (Op.equal t (a.eval x) (a.eval y)).run P w = .ok b w ∧ (∀ op ox oy, (eqGuard op t ox oy (a.eval x) (a.eval y)).run P w = .ok () w) ∧ notNum (a.eval x) = true := fun b hb => by
      have ht : (E.ty t).ok = true := by
        unfold eqT at hb
        unfold Ty.ok
        split at hb <;> split at hb <;> first | (rename_i hd; rw [hd]; done) | (cases hb; done)
      exact ⟨ht, run_eqT (c.ty.row ht) hx hy hb (fun i j z hz => ⟨_, hz.2⟩) (fun i g k j z hz => by
        obtain ⟨ro, g', t', vs, _, _, ⟨b, o, hq⟩, _⟩ := hz
        exact ⟨_, hq⟩)⟩
    split at h1
    · split at h1
      · rename_i b hb
        obtain ⟨_, h3, h4, h5⟩ := key b hb
        simp only [Tr.eval, Option.some.injEq] at h1
        subst h1
        exact fin (.bool b) (by rw [(binOp_eql h5).1]; simp [h3]) (h4 _ _ _) rfl
      · simp [Tr.eval] at h1
    · split at h1
      · rename_i b hb
        obtain ⟨_, h3, h4, h5⟩ := key b hb
        simp only [Tr.eval, Option.some.injEq] at h1
        subst h1
        exact fin (.bool !b) (by rw [(binOp_eql h5).2]; simp [h3]) (h4 _ _ _) rfl
      · simp [Tr.eval] at h1
    · simp [Tr.eval] at h1
end
end Go.AH
