/- A part of the proof: AHP, AHQ, AHU, AHV, AHW, AHX, AHM, AHA, AHN, AHCv, AHIt. -/
import Derived.Test.YtpngkkalomiggaaGreatDoorEA
import Derived.Lib.ConvBytes
import Derived.Lib.OthersKept
set_option linter.all false
namespace Go.AH
open Go Go.RowKit

section
variable {P : Program} {T : TypeId → Ty} {G : Nat → V} {Z : Nat → Prop} {h view : Nat → Ob} {β : Nat → Loc} {w : World}

/-- The view shows no more than there is. -/
def Sees (view h : Nat → Ob) : Prop := ∀ i, view i = .dead ∨ view i = h i
theorem Sees.at_ (hv : Sees view h) {i : Nat} {o : Ob} (he : view i = o) (ho : o ≠ .dead) : h i = o := by
  rcases hv i with h1 | h1
  · rw [h1] at he; exact absurd he.symm ho
  · rw [← h1]; exact he

theorem Lies.drop {b o : Nat} {l : List Value} (hl : Lies w b o l) (n : Nat) : Lies w b (o + n) (l.drop n) := by
  intro j u hj
  rw [List.getElem?_drop] at hj
  have := hl (n + j) u hj
  rwa [← Nat.add_assoc] at this
theorem Lies.take {b o : Nat} {l : List Value} (hl : Lies w b o l) (n : Nat) : Lies w b o (l.take n) := by
  intro j u hj
  rw [List.getElem?_take] at hj
  split at hj
  · exact hl j u hj
  · cases hj
theorem Lies.of_block {b : Nat} {arr : Array Value} {e : TypeId} {fr : Nat × Nat} (hb : w.heap[b]? = some (.cells arr e fr)) : Lies w b 0 arr.toList := by
  intro j u hj
  simp [World.cell?, hb]
  simpa using hj

theorem cellsAt_sound (hT : TyOk P T) (cx : Cx T G Z h β w) (hv : Sees view h) {v : V} {x : Value} {cs : List V} (hr : Rep T w (Own Z h β) v (RefRep T h β) x) (he : cellsAt T view v = some cs) :
    ∃ b o l, x = .pointer (some ⟨b, o, none⟩) ∧ Lies w b o l ∧ RepL T w (Own Z h β) cs (RefRep T h β) l := by
  unfold cellsAt at he
  split at he
  · rename_i cs'
    obtain ⟨b, o, l, rfl, _, _, h3, h4⟩ := hr
    simp at he
    subst he
    exact ⟨b, o, l, rfl, h3, RepL.refs _ _ _ _ (fun _ _ _ h => h.elim) h4⟩
  · rename_i i j
    split at he
    · rename_i ro cs' hq
      simp at he
      subst he
      have hi := hv.at_ hq (by simp)
      obtain ⟨_, hx⟩ := hr
      have ho := cx.ob i
      rw [hi] at ho
      obtain ⟨_, arr, e, h1, h2⟩ := ho
      refine ⟨(β i).b, j, (arr.toList.take cs'.length).drop j, hx, ?_, h2.drop j⟩
      have := ((Lies.of_block h1).take cs'.length).drop j
      rwa [Nat.zero_add] at this
    · cases he
  · rename_i i g k j
    split at he
    · rename_i ro g' t vs hq
      split at he
      · rename_i hg
        simp at he
        subst he
        have hgg : g = g' := Nat.eq_of_beq_eq_true hg
        have hi := hv.at_ hq (by simp)
        obtain ⟨ro2, g2, t2, vs2, hi2, _, _, hx⟩ := hr
        rw [hi] at hi2
        simp only [Ob.row.injEq] at hi2
        obtain ⟨rfl, rfl, rfl, rfl⟩ := hi2
        obtain ⟨hk, hx⟩ := hx hgg
        have ho := cx.ob i
        rw [hi] at ho
        obtain ⟨ht, ho | ⟨_, cur, _, _, _, _, h5⟩⟩ := ho
        · rw [ho.2.1] at hk; simp at hk
        · have hkk : vs[k]? = some vs[k] := List.getElem?_eq_getElem hk
          obtain ⟨f1, f2, cs', h6, h7, h8⟩ := RepSeq.get h5 hkk
          have hgd : vs[k]?.getD .top = vs[k] := by simp [hkk]
          rw [hgd, f2]
          refine ⟨(β i).b, (β i).off + (k * (T t).size + j), cs'.drop j, hx, ?_, ?_⟩
          · have := h7.drop j
            rwa [Nat.add_assoc] at this
          · exact (RepL.refs _ _ _ _ (fun _ _ _ h => h.elim) (mkVal_rep (hT.row ht) f1 h6 h8)).drop j
      · cases he
    · cases he
  · cases he

theorem run_loadAt (hT : TyOk P T) {t : TypeId} (ht : (T t).ok = true) {b o : Nat} {l : List Value} (hl : Lies w b o l) :
    ((T t).agg = true → (T t).size ≤ l.length → (Instr.loadAt t (.pointer (some ⟨b, o, none⟩))).run P w = .ok (.agg (l.take (T t).size).toArray) w) ∧
    ((T t).agg = false → ∀ u r, l = u :: r → (Instr.loadAt t (.pointer (some ⟨b, o, none⟩))).run P w = .ok u w) := by
  have row := hT.row ht
  refine ⟨fun ha hs => ?_, fun ha u r hu => ?_⟩
  · have hlen : (l.take (T t).size).length = (T t).size := by simp; omega
    have hc := run_loadCells_list (P := P) w ⟨b, o, none⟩ (l.take (T t).size) (fun j v hj => by rw [Addr.add_lit]; exact hl.take _ j v hj)
    rw [hlen] at hc
    simp [Instr.loadAt, Instr.sureAddr, loadVar, row.agg, ha, row.size, hc]
  · subst hu
    have := hl 0 u rfl
    rw [Nat.add_zero] at this
    simp [Instr.loadAt, Instr.sureAddr, loadVar, row.agg, ha, this]

theorem eval_test {α : Type} {b : Bool} {t : Tr α} {a : α} (h : (Tr.test b t).eval = some a) : b = true ∧ t.eval = some a := by
  cases b
  · simp [Tr.test, Tr.eval] at h
  · exact ⟨rfl, h⟩
theorem eval_bind {α β : Type} : ∀ {t : Tr α} {f : α → Tr β} {b : β}, (t.bind f).eval = some b → ∃ a, t.eval = some a ∧ (f a).eval = some b
  | .ret a, f, b, h => ⟨a, rfl, h⟩
  | .ite true t e, f, b, h => eval_bind (t := t) h
  | .ite false t e, f, b, h => eval_bind (t := e) h
  | .fail, f, b, h => by simp [Tr.bind, Tr.eval] at h
theorem bind_eval {α β : Type} : ∀ {t : Tr α} {f : α → Tr β} {a : α}, t.eval = some a → (t.bind f).eval = (f a).eval
  | .ret a, f, b, h => by simp [Tr.eval] at h; subst h; rfl
  | .ite true t e, f, b, h => bind_eval (t := t) h
  | .ite false t e, f, b, h => bind_eval (t := e) h
  | .fail, f, b, h => by simp [Tr.eval] at h

theorem RepSeq.part {T : TypeId → Ty} {w : World} {O : Nat → Prop} {t b : Nat} : ∀ (vs : List V) (o m : Nat) {off : Nat}, RepSeq T w O vs t b off → RepSeq T w O ((vs.drop o).take m) t b (off + o * (T t).size)
  | [], o, m, off, _ => by simp; exact trivial
  | v :: vs, 0, 0, off, _ => by simp; exact trivial
  | v :: vs, 0, m + 1, off, hs => by
    simp only [List.drop_zero, List.take_succ_cons, Nat.zero_mul, Nat.add_zero]
    have := RepSeq.part vs 0 m hs.2.2
    simp only [List.drop_zero, Nat.zero_mul, Nat.add_zero] at this
    exact ⟨hs.1, hs.2.1, this⟩
  | v :: vs, o + 1, m, off, hs => by
    rw [List.drop_succ_cons]
    have := RepSeq.part vs o m hs.2.2
    rwa [Nat.succ_mul, show off + (o * (T t).size + (T t).size) = off + (T t).size + o * (T t).size from by omega]
/-- What a slice holds, and where. -/
theorem els_sound (cx : Cx T G Z h β w) (hv : Sees view h) {v : V} {x : Value} {t : TypeId} {vs : List V} (hr : Rep T w (Own Z h β) v (RefRep T h β) x) (he : els view v = some (t, vs)) :
    ∃ a cap, x = .slice a vs.length cap ∧ vs.length ≤ cap ∧ (vs = [] ∨ ∃ b o, a = some ⟨b, o, none⟩ ∧ b < w.heap.size ∧ RepSeq T w (Own Z h β) vs t b o) := by
  have rowRep : ∀ {i ro g vs'}, h i = .row ro g t vs' → ((β i).nil = true ∧ vs' = [] ∧ (β i).cap = 0) ∨ ((β i).nil = false ∧ vs'.length ≤ (β i).cap ∧ (β i).b < w.heap.size ∧ RepSeq T w (Own Z h β) vs' t (β i).b (β i).off) := by
    intro i ro g vs' hi
    have ho := cx.ob i
    rw [hi] at ho
    obtain ⟨_, ho | ⟨hn, cur, h1, h2, _, _, h5⟩⟩ := ho
    · exact .inl ho
    · exact .inr ⟨hn, h2, (Array.getElem?_eq_some_iff.1 h1).1, h5⟩
  unfold els at he
  split at he
  · simp at he
    obtain ⟨rfl, rfl⟩ := he
    obtain ⟨a, cap, rfl, h1, h2 | ⟨b, o, rfl, h3, _, h4⟩⟩ := hr
    · exact ⟨a, cap, rfl, h1, .inl h2⟩
    · exact ⟨_, cap, rfl, h1, .inr ⟨b, o, rfl, h3, h4⟩⟩
  · simp at he
    obtain ⟨rfl, rfl⟩ := he
    obtain ⟨a, rfl, h2 | ⟨b, o, rfl, h3, _, h4⟩⟩ := hr
    · exact ⟨a, _, rfl, Nat.le_refl _, .inl h2⟩
    · exact ⟨_, _, rfl, Nat.le_refl _, .inr ⟨b, o, rfl, h3, h4⟩⟩
  · simp at he
    obtain ⟨rfl, rfl⟩ := he
    exact ⟨none, 0, hr, Nat.le_refl _, .inl rfl⟩
  · rename_i i g n
    split at he
    · rename_i ro g' t' vs' hq
      split at he
      · rename_i hg
        simp at he
        obtain ⟨rfl, rfl⟩ := he
        have hgg : g = g' := Nat.eq_of_beq_eq_true hg
        have hi := hv.at_ hq (by simp)
        obtain ⟨ro2, g2, t2, vs2, hi2, _, _, hx⟩ := hr
        rw [hi] at hi2
        simp only [Ob.row.injEq] at hi2
        obtain ⟨rfl, rfl, rfl, rfl⟩ := hi2
        obtain ⟨rfl, rfl, rfl⟩ := hx hgg
        rcases rowRep hi with ⟨h1, h2, h3⟩ | ⟨h1, h2, h3, h4⟩
        · exact ⟨_, _, rfl, by rw [h2]; exact Nat.zero_le _, .inl h2⟩
        · exact ⟨_, _, rfl, h2, .inr ⟨_, _, by simp [Loc.addr, h1], h3, h4⟩⟩
      · cases he
    · cases he
  · rename_i i g o m
    split at he
    · rename_i ro g' t' vs' hq
      split at he
      · rename_i hg
        simp at he
        obtain ⟨rfl, rfl⟩ := he
        have hgg : g = g' := Nat.eq_of_beq_eq_true hg
        have hi := hv.at_ hq (by simp)
        obtain ⟨ro2, g2, t2, vs2, hi2, _, _, hx⟩ := hr
        rw [hi] at hi2
        simp only [Ob.row.injEq] at hi2
        obtain ⟨rfl, rfl, rfl, rfl⟩ := hi2
        obtain ⟨rfl, hom, a, rfl, hx2⟩ := hx hgg
        have hlen : ((vs'.drop o).take m).length = m := by simp; omega
        rw [hlen]
        rcases rowRep hi with ⟨h1, h2, h3⟩ | ⟨h1, h2, h3, h4⟩
        · subst h2
          simp at hom
          obtain ⟨_, rfl⟩ := hom
          exact ⟨_, _, rfl, Nat.zero_le _, .inl (by simp)⟩
        · refine ⟨_, _, rfl, by omega, ?_⟩
          by_cases hm : m = 0
          · subst hm; exact .inl (by simp)
          · refine .inr ⟨_, _, hx2 (by omega), h3, ?_⟩
            exact RepSeq.part vs' o m h4
      · cases he
    · cases he
  · cases he
end
end Go.AH

namespace Go.AH
open Go Go.RowKit

structure Ctx (E : Env) (P : Program) (Z : Nat → Prop) (h view : Nat → Ob) (β : Nat → Loc) (w : World) (s : Nat → V) (a : Act) : Prop where
  ty : TyOk P E.ty
  cx : Cx E.ty E.glob Z h β w
  sees : Sees view h
  slots : SRep E.ty w (Own Z h β) (RefRep E.ty h β) s a

section
variable {E : Env} {P : Program} {Z : Nat → Prop} {h view : Nat → Ob} {β : Nat → Loc} {w : World} {s : Nat → V} {a : Act} {fr : Nat} {o : Oper} {r : Rs}

/-- The operation gives a value and leaves the world alone. -/
def Gives (E : Env) (P : Program) (Z : Nat → Prop) (h : Nat → Ob) (β : Nat → Loc) (w : World) (a : Act) (o : Oper) (r : Rs) : Prop :=
  ∃ v x, r = .ok v [] ∧ (execOp a.eval o).run P w = .ok (.value x) w ∧ Rep E.ty w (Own Z h β) v (RefRep E.ty h β) x

theorem Ctx.val (c : Ctx E P Z h view β w s a) (x : Operand) : Rep E.ty w (Own Z h β) (AH.ev E s x) (RefRep E.ty h β) (a.eval x) := c.slots.ev c.cx.glob x
theorem Ctx.vals (c : Ctx E P Z h view β w s a) : ∀ (xs : List Operand), RepL E.ty w (Own Z h β) (xs.map (AH.ev E s)) (RefRep E.ty h β) (xs.map a.eval)
  | [] => rfl
  | x :: xs => ⟨_, _, rfl, c.val x, c.vals xs⟩
theorem ptr_box {T : TypeId → Ty} (i j : Nat) (z : Value) (hz : RefRep T h β (.box i j) z) : ∃ p, z = .pointer (some p) := ⟨_, hz.2⟩

theorem op_move (c : Ctx E P Z h view β w s a) {x : Operand} (ho : o.op = .move x) (he : (evOp E view s fr o).eval = some r) : Gives E P Z h β w a o r := by
  simp only [evOp, ho, Tr.eval, Option.some.injEq] at he
  exact ⟨_, _, he.symm, by simp [execOp, ho], c.val x⟩
theorem op_pick (c : Ctx E P Z h view β w s a) {x y z : Operand} (ho : o.op = .pick x y z) (he : (evOp E view s fr o).eval = some r) : Gives E P Z h β w a o r := by
  simp only [evOp, ho] at he
  split at he
  · rename_i t ht
    have hx := c.val x
    rw [ht] at hx
    have hb : a.eval x = .bool t := hx
    cases t
    · simp only [Tr.eval, Option.some.injEq] at he
      exact ⟨_, _, he.symm, by simp [execOp, ho, hb, asBool], c.val z⟩
    · simp only [Tr.eval, Option.some.injEq] at he
      exact ⟨_, _, he.symm, by simp [execOp, ho, hb, asBool], c.val y⟩
  · simp [Tr.eval] at he
theorem op_extract (c : Ctx E P Z h view β w s a) {x : Operand} {n : Nat} (ho : o.op = .extract x n) (he : (evOp E view s fr o).eval = some r) : Gives E P Z h β w a o r := by
  simp only [evOp, ho] at he
  split at he
  · rename_i vs ht
    have hx := c.val x
    rw [ht] at hx
    obtain ⟨arr, hb, hl⟩ := hx
    cases hn : vs[n]? with
    | none => simp [hn, optTr, Tr.eval] at he
    | some v =>
      simp only [hn, optTr, Tr.eval, Option.some.injEq] at he
      obtain ⟨y, h1, h2⟩ := RepL.get n v hl hn
      have h1' : arr[n]? = some y := by simpa using h1
      exact ⟨v, y, he.symm, by simp [execOp, ho, hb, Instr.extract, h1'], h2⟩
  · simp [Tr.eval] at he
theorem op_load (c : Ctx E P Z h view β w s a) {t : TypeId} {x : Operand} (ho : o.op = .load t x) (he : (evOp E view s fr o).eval = some r) : Gives E P Z h β w a o r := by
  simp only [evOp, ho] at he
  cases ht : (E.ty t).ok with
  | false => rw [ht] at he; exact absurd he (fun h => by cases h)
  | true =>
    rw [ht] at he
    simp only at he
    cases hq : cellsAt E.ty view (ev E s x) with
    | none => rw [hq] at he; exact absurd he (fun h => by cases h)
    | some cs =>
      rw [hq] at he
      simp only [optTr] at he
      obtain ⟨b, off, l, hx, hl, hr⟩ := cellsAt_sound c.ty c.cx c.sees (c.val x) hq
      obtain ⟨r1, r2⟩ := run_loadAt (P := P) c.ty ht hl
      have hlen := hr.length
      cases ha : (E.ty t).agg with
      | true =>
        simp only [ha] at he
        cases hs : Nat.ble (E.ty t).size cs.length with
        | false => simp [hs, Tr.eval] at he
        | true =>
          simp only [hs, Tr.eval, Option.some.injEq] at he
          have hs' : (E.ty t).size ≤ l.length := by rw [hlen]; exact Nat.le_of_ble_eq_true hs
          exact ⟨_, .agg (l.take (E.ty t).size).toArray, he.symm, by simp [execOp, ho, hx, r1 ha hs'], ⟨_, rfl, by simpa using hr.take _⟩⟩
      | false =>
        simp only [ha] at he
        cases cs with
        | nil => simp [Tr.eval] at he
        | cons u cs =>
          simp only [Tr.eval, Option.some.injEq] at he
          obtain ⟨y, rest, rfl, h1, _⟩ := hr
          exact ⟨_, _, he.symm, by simp [execOp, ho, hx, r2 ha y rest rfl], h1⟩
theorem op_un (c : Ctx E P Z h view β w s a) {op : UnOp} {t : TypeId} {x : Operand} (ho : o.op = .unOp op t x) (he : (evOp E view s fr o).eval = some r) : Gives E P Z h β w a o r := by
  simp only [evOp, ho] at he
  have hx := c.val x
  split at he
  · rename_i b hb
    rw [hb] at hx
    have hx' : a.eval x = .bool b := hx
    simp only [Tr.eval, Option.some.injEq] at he
    exact ⟨_, _, he.symm, by simp [execOp, ho, hx', Op.unary], rfl⟩
  · rename_i k n hb
    rw [hb] at hx
    have hx' : a.eval x = .int k n := hx
    simp only [Tr.eval, Option.some.injEq] at he
    exact ⟨_, _, he.symm, by simp [execOp, ho, hx', Op.unary, Op.intArith], rfl⟩
  · rename_i k n hb
    rw [hb] at hx
    have hx' : a.eval x = .int k n := hx
    simp only [Tr.eval, Option.some.injEq] at he
    exact ⟨_, _, he.symm, by simp [execOp, ho, hx', Op.unary, Op.intBits], rfl⟩
  · simp [Tr.eval] at he
theorem eqGuard_not {op : BinOp} {t : TypeId} {ox oy : Operand} {x y : Value} (h1 : op ≠ .eql) (h2 : op ≠ .neq) : eqGuard op t ox oy x y = pure () := by
  cases op <;> first | rfl | exact absurd rfl h1 | exact absurd rfl h2
theorem eqGuard_int {op : BinOp} {t : TypeId} {ox oy : Operand} {k k' : IntKind} {x y : Int} : eqGuard op t ox oy (.int k x) (.int k' y) = pure () := by cases op <;> rfl
theorem eqGuard_str {op : BinOp} {t : TypeId} {ox oy : Operand} {x y : ByteArray} : eqGuard op t ox oy (.string x) (.string y) = pure () := by cases op <;> rfl
theorem run_eqIn_ifc {P : Program} {w : World} (d : Nat) {t : TypeId} {ms : Array (String × TypeId)} (hu : P.underlying t = some (.interface ms)) (u : TypeId) (z : Value) :
    (Op.equalIn (d + 1) t .nilIface .nilIface).run P w = .ok true w ∧ (Op.equalIn (d + 1) t .nilIface (.iface u z)).run P w = .ok false w ∧ (Op.equalIn (d + 1) t (.iface u z) .nilIface).run P w = .ok false w := by
  refine ⟨?_, ?_, ?_⟩ <;> simp [Op.equalIn, run_underlying hu]
theorem eqI_run {P : Program} {w : World} {t : TypeId} {ms : Array (String × TypeId)} (hu : P.underlying t = some (.interface ms)) {T : TypeId → Ty} {O : Nat → Prop} {R : V → Value → Prop} {u v : V} {p q : Value} {b : Bool} (hp : Rep T w O u R p) (hq : Rep T w O v R q) (he : eqI u v = some b) {x y : Operand} (hc : (isConst x || isConst y) = true) :
    (Op.equal t p q).run P w = .ok b w ∧ (∀ op, (eqGuard op t x y p q).run P w = .ok () w) ∧ notNum p = true := by
  unfold eqI at he
  split at he
  · simp at he
    subst he
    rw [show p = _ from hp, show q = _ from hq]
    refine ⟨(run_eqIn_ifc 9999 hu 0 .nilIface).1, fun op => ?_, rfl⟩
    cases op <;> first | rfl | (cases x <;> first | rfl | (cases y <;> first | rfl | (simp [isConst] at hc)))
  · simp at he
    subst he
    obtain ⟨z, rfl, _⟩ := hq
    rw [show p = _ from hp]
    exact ⟨(run_eqIn_ifc 9999 hu _ _).2.1, fun op => by cases op <;> rfl, rfl⟩
  · simp at he
    subst he
    obtain ⟨z, rfl, _⟩ := hp
    rw [show q = _ from hq]
    exact ⟨(run_eqIn_ifc 9999 hu _ _).2.2, fun op => by cases op <;> rfl, rfl⟩
  · cases he
theorem run_eqIn_slice {P : Program} {w : World} (d : Nat) {t e : TypeId} (hu : P.underlying t = some (.slice e)) (a : Option Addr) (n k : Nat) :
    (Op.equalIn (d + 1) t (.slice a n k) (.slice none 0 0)).run P w = .ok a.isNone w := by
  cases a <;> simp [Op.equalIn, run_underlying hu]
theorem nilS_run {P : Program} {w : World} {t e : TypeId} (hu : P.underlying t = some (.slice e)) {T : TypeId → Ty} {O : Nat → Prop} {R : V → Value → Prop} {u : V} {p : Value} {b : Bool} (hp : Rep T w O u R p) {x y : Operand} {q : Value} (he : nilS y u = some b) (hq : ∀ v, y = .const v → q = v) :
    (Op.equal t p q).run P w = .ok b w ∧ (∀ op, (eqGuard op t x y p q).run P w = .ok () w) ∧ notNum p = true := by
  unfold nilS at he
  split at he
  · simp at he
    subst he
    rw [hq _ rfl, show p = _ from hp]
    exact ⟨run_eqIn_slice 9999 hu _ _ _, fun op => by cases op <;> rfl, rfl⟩
  · simp at he
    subst he
    obtain ⟨a, cap, rfl, _, h | ⟨bb, o, rfl, _⟩⟩ := hp
    · cases h
    · rw [hq _ rfl]
      exact ⟨run_eqIn_slice 9999 hu _ _ _, fun op => by cases op <;> rfl, rfl⟩
  · simp at he
    subst he
    obtain ⟨a, rfl, h | ⟨bb, o, rfl, _⟩⟩ := hp
    · cases h
    · rw [hq _ rfl]
      exact ⟨run_eqIn_slice 9999 hu _ _ _, fun op => by cases op <;> rfl, rfl⟩
  · cases he
theorem op_bin (c : Ctx E P Z h view β w s a) {op : BinOp} {t ty : TypeId} {x y : Operand} (ho : o.op = .binOp op t x y ty) (he : (evOp E view s fr o).eval = some r) : Gives E P Z h β w a o r := by
  simp only [evOp, ho] at he
  split at he
  · rename_i b hN
    split at he
    · rename_i e hd
      obtain ⟨hu, _⟩ := (c.ty.row (by unfold Ty.ok; rw [hd])).slice hd
      obtain ⟨h1, h2, h3⟩ := nilS_run (P := P) (x := x) hu (c.val x) hN (q := a.eval y) (fun v hv => by rw [hv]; rfl)
      simp only [Tr.eval, Option.some.injEq] at he
      exact ⟨_, .bool b, he.symm, by simp [execOp, ho, (binOp_eql h3).1, h1, h2], rfl⟩
    · rename_i e hd
      obtain ⟨hu, _⟩ := (c.ty.row (by unfold Ty.ok; rw [hd])).slice hd
      obtain ⟨h1, h2, h3⟩ := nilS_run (P := P) (x := x) hu (c.val x) hN (q := a.eval y) (fun v hv => by rw [hv]; rfl)
      simp only [Tr.eval, Option.some.injEq] at he
      exact ⟨_, .bool !b, he.symm, by simp [execOp, ho, (binOp_eql h3).2, h1, h2], rfl⟩
    · simp [Tr.eval] at he
  split at he
  · rename_i b hI
    split at he
    · rename_i hd hc
      obtain ⟨ms, hu⟩ := (c.ty.row (by unfold Ty.ok; rw [hd])).ifc hd
      obtain ⟨h1, h2, h3⟩ := eqI_run (P := P) hu (c.val x) (c.val y) hI hc
      simp only [Tr.eval, Option.some.injEq] at he
      exact ⟨_, .bool b, he.symm, by simp [execOp, ho, (binOp_eql h3).1, h1, h2], rfl⟩
    · rename_i hd hc
      obtain ⟨ms, hu⟩ := (c.ty.row (by unfold Ty.ok; rw [hd])).ifc hd
      obtain ⟨h1, h2, h3⟩ := eqI_run (P := P) hu (c.val x) (c.val y) hI hc
      simp only [Tr.eval, Option.some.injEq] at he
      exact ⟨_, .bool !b, he.symm, by simp [execOp, ho, (binOp_eql h3).2, h1, h2], rfl⟩
    · simp [Tr.eval] at he
  replace he := he
  obtain ⟨v, h1, h2⟩ := eval_bind he
  simp only [Tr.eval, Option.some.injEq] at h2
  have hx := c.val x
  have hy := c.val y
  have fin : ∀ z, (binOp op t (a.eval x) (a.eval y)).run P w = .ok z w → (eqGuard op t x y (a.eval x) (a.eval y)).run P w = .ok () w → Rep E.ty w (Own Z h β) v (RefRep E.ty h β) z → Gives E P Z h β w a o r :=
    fun z hz hg hr => ⟨v, z, h2.symm, by simp [execOp, ho, hz, hg], hr⟩
  unfold binV at h1
  split at h1
  · rename_i k p k' q e1 e2
    rw [e1] at hx
    rw [e2] at hy
    have hx' : a.eval x = .int k p := hx
    have hy' : a.eval y = .int k' q := hy
    have hg : (eqGuard op t x y (a.eval x) (a.eval y)).run P w = .ok () w := by rw [hx', hy', eqGuard_int]; rfl
    split at h1
    · obtain ⟨h3, h4⟩ := eval_test h1
      simp only [Tr.eval, Option.some.injEq] at h4
      subst h4
      refine fin _ ?_ hg rfl
      rw [hx', hy']
      show Sem.run P (if q < 0 then _ else _) w = _
      rw [if_neg (by simpa using h3)]
      rfl
    · obtain ⟨h3, h4⟩ := eval_test h1
      simp only [Tr.eval, Option.some.injEq] at h4
      subst h4
      refine fin _ ?_ hg rfl
      rw [hx', hy']
      show Sem.run P (if q < 0 then _ else _) w = _
      rw [if_neg (by simpa using h3)]
      rfl
    · rename_i n1 n2
      split at h1
      · rename_i hk
        have hkk : k = k' := by simpa using hk
        subst hkk
        obtain ⟨z, h3, h4⟩ := run_binInt (T := E.ty) (w := w) (O := Own Z h β) (P := P) t n1 n2 h1
        exact fin z (by rw [hx', hy']; exact h3) hg (h4 _)
      · simp [Tr.eval] at h1
  · rename_i p q e1 e2
    rw [e1] at hx
    rw [e2] at hy
    obtain ⟨b1, hx', h5⟩ := hx
    obtain ⟨b2, hy', h6⟩ := hy
    have hg : (eqGuard op t x y (a.eval x) (a.eval y)).run P w = .ok () w := by rw [hx', hy', eqGuard_str]; rfl
    obtain ⟨z, h3, h4⟩ := run_binStr (T := E.ty) (w := w) (O := Own Z h β) (P := P) t t (E.ty t) h5 h6 (by unfold binV; exact h1)
    exact fin z (by rw [hx', hy']; exact h3) hg (h4 _)
  · rename_i n1 n2
    have key : ∀ b, eqT (E.ty t) (ev E s x) (ev E s y) = some b → (E.ty t).ok = true ∧ (Op.equal t (a.eval x) (a.eval y)).run P w = .ok b w ∧ (∀ op ox oy, (eqGuard op t ox oy (a.eval x) (a.eval y)).run P w = .ok () w) ∧ notNum (a.eval x) = true := fun b hb => by
      have ht : (E.ty t).ok = true := by
        unfold eqT at hb
        unfold Ty.ok
        split at hb <;> split at hb <;> first | (rename_i hd; rw [hd]; done) | (cases hb; done)
      exact ⟨ht, run_eqT (c.ty.row ht) hx hy hb (fun i j z hz => ⟨_, hz.2⟩) (fun i g k j z hz => by
        obtain ⟨ro, g', t', vs, _, _, ⟨b, o, hq⟩, _⟩ := hz
        exact ⟨_, hq⟩) (fun i z hz => ⟨_, hz.2⟩)⟩
    split at h1
    · split at h1
      · rename_i b hb
        obtain ⟨_, h3, h4, h5⟩ := key b hb
        simp only [Tr.eval, Option.some.injEq] at h1
        subst h1
        exact fin (.bool b) (by rw [(binOp_eql h5).1]; simp [h3]) (h4 _ _ _) rfl
      · simp [Tr.eval] at h1
    · split at h1
      · rename_i b hb
        obtain ⟨_, h3, h4, h5⟩ := key b hb
        simp only [Tr.eval, Option.some.injEq] at h1
        subst h1
        exact fin (.bool !b) (by rw [(binOp_eql h5).2]; simp [h3]) (h4 _ _ _) rfl
      · simp [Tr.eval] at h1
    · simp [Tr.eval] at h1
end
end Go.AH

namespace Go.AH
open Go Go.RowKit

section
variable {E : Env} {P : Program} {Z : Nat → Prop} {h view : Nat → Ob} {β : Nat → Loc} {w : World} {s : Nat → V} {a : Act} {fr : Nat} {o : Oper} {r : Rs}

theorem op_makeFunc (c : Ctx E P Z h view β w s a) {f : FuncId} {x y : Array Operand} (ho : o.op = .makeFunc (.func f) x y) (he : (evOp E view s fr o).eval = some r) : Gives E P Z h β w a o r := by
  simp only [evOp, ho, Tr.eval, Option.some.injEq] at he
  exact ⟨_, .func (.func f) (x.map a.eval) (y.map a.eval), he.symm, by simp [execOp, ho, Instr.makeFunc], ⟨_, _, rfl, by simpa using c.vals x.toList, by simpa using c.vals y.toList⟩⟩

theorem dec3 {a b c : Bool} (h : (a && b && c) = true) : a = true ∧ b = true ∧ c = true := by simpa [and_assoc] using h
theorem intOp {x : Option Operand} {d n : Int} (c : Ctx E P Z h view β w s a) (he : loI E s x d = some n) : (x = none ∧ n = d) ∨ ∃ y k, x = some y ∧ a.eval y = .int k n := by
  unfold loI at he
  split at he
  · rename_i y
    have hx := c.val y
    split at he
    · rename_i k m hq
      rw [hq] at hx
      simp at he
      subst he
      exact .inr ⟨y, k, rfl, hx⟩
    · cases he
  · simp at he
    exact .inl ⟨rfl, he.symm⟩
/-- A slice's bounds, as they are given. -/
theorem run_bounds {isS : Bool} {len cap : Nat} {lo hi : Option Operand} {l hh : Int} (c : Ctx E P Z h view β w s a)
    (hl : loI E s lo 0 = some l) (hhi : loI E s hi len = some hh) (h0 : 0 ≤ l) (h1 : l ≤ hh) (h2 : hh ≤ cap) :
    (Instr.sliceBounds isS len cap (lo.map a.eval) (hi.map a.eval) none).run P w = .ok (l.toNat, hh.toNat, cap) w := by
  have h3 : (hh.toNat : Int) = hh := Int.toNat_of_nonneg (by omega)
  have h4 : 0 ≤ hh := by omega
  rcases intOp c hl with ⟨rfl, rfl⟩ | ⟨y, k', rfl, hy⟩
  · rcases intOp c hhi with ⟨rfl, rfl⟩ | ⟨x, k, rfl, hx⟩
    · simp [Instr.sliceBounds]
    · simp only [Option.map_none, Option.map_some, hx]
      simp [Instr.sliceBounds, run_sliceBound, h4, h2]
  · rcases intOp c hhi with ⟨rfl, rfl⟩ | ⟨x, k, rfl, hx⟩
    · simp only [Option.map_none, Option.map_some, hy]
      simp [Instr.sliceBounds, run_sliceBound, h0, h1]
    · simp only [Option.map_some, hx, hy]
      have hb := run_sliceBound (P := P) w k' l hh.toNat .sliceB h0 (by omega)
      have hb2 : ∀ code, (Instr.sliceBound (.int k hh) cap code).run P w = .ok hh.toNat w := fun code => run_sliceBound (P := P) w k hh cap code h4 h2
      simp [Instr.sliceBounds, hb2, hb]
theorem extract_list (b : ByteArray) (i j : Nat) : (b.extract i j).data.toList = (b.data.toList.drop i).take (j - i) := by
  rw [ByteArray.data_extract, Array.toList_extract]
theorem nat_of_beq {a b : Nat} (h : Nat.beq a b = true) : a = b := Nat.eq_of_beq_eq_true h
theorem isFormL_etaL : ∀ (ks : List Kd) (cs : List V) (j : Nat) (v : V), isFormL ks cs = true → (∀ i : Nat, v.cell (j + i) = cs.getD i .top) → isFormL ks (etaL ks j v) = true
  | [], [], _, _, _, _ => rfl
  | [], _ :: _, _, _, h, _ => by simp [isFormL] at h
  | _ :: _, [], _, _, h, _ => by simp [isFormL] at h
  | k :: ks, c :: cs, j, v, h, hv => by
    rw [isFormL, Bool.and_eq_true] at h
    have h0 := hv 0
    rw [Nat.add_zero, List.getD_cons_zero] at h0
    rw [etaL, isFormL, Bool.and_eq_true, h0]
    refine ⟨eta_form h.1, isFormL_etaL ks cs (j + 1) v h.2 (fun i => ?_)⟩
    have := hv (i + 1)
    rw [List.getD_cons_succ] at this
    rw [← this]
    congr 1
    omega
theorem form_etaT {ty : Ty} {v : V} (h : isFormT ty v = true) : isFormT ty (etaT ty v) = true := by
  obtain ⟨size, agg, bytes, kinds, d, eq⟩ := ty
  cases agg with
  | true =>
    cases v <;> simp [isFormT] at h
    exact isFormL_etaL kinds _ 0 _ h (fun i => by simp [V.cell, V.cells])
  | false =>
    match kinds, h with
    | [k], h => exact eta_form h
    | [], h => simp [isFormT] at h
    | _ :: _ :: _, h => simp [isFormT] at h
theorem singles {T : TypeId → Ty} {w : World} {O : Nat → Prop} {e : TypeId} (row : Row P e (T e)) (ha : (T e).agg = false) (hs : (T e).size = 1) {b : Nat} : ∀ (vs : List V) (l : List Value) (o : Nat), RepL T w O vs noR l → Lies w b o l → vs.all (isFormT (T e)) = true → RepSeq T w O (vs.map (etaT (T e))) e b o
  | [], _, _, _, _, _ => trivial
  | v :: vs, l, o, hr, hl, hf => by
    obtain ⟨x, r, rfl, h1, h2⟩ := hr
    rw [List.all_cons, Bool.and_eq_true] at hf
    refine ⟨⟨form_etaT hf.1, etaT_etaT _ _⟩, ⟨[x], by rw [hs]; rfl, fun j u hj => ?_, ?_⟩, ?_⟩
    · cases j with
      | zero => exact hl 0 u (by simpa using hj)
      | succ j => simp at hj
    · rw [ha]
      exact h1.etaT hf.1
    · rw [hs]
      exact singles row ha hs vs r (o + 1) h2 (fun j u hj => by
        have := hl (j + 1) u (by simpa using hj)
        rw [show o + 1 + j = o + (j + 1) from by omega]
        exact this) hf.2
theorem op_slice (c : Ctx E P Z h view β w s a) {t : TypeId} {x : Operand} {lo hi : Option Operand} (ho : o.op = .slice t x lo hi none) (he : (evOp E view s fr o).eval = some r) : Gives E P Z h β w a o r := by
  simp only [evOp, ho] at he
  have hx := c.val x
  generalize hL : loI E s lo 0 = L at he
  split at he
  · rename_i b hd hb
    rw [hb] at hx
    obtain ⟨sb, hx, hsb⟩ := hx
    have ht : (E.ty t).ok = true := by unfold Ty.ok; rw [hd]
    obtain ⟨hu, _⟩ := (c.ty.row ht).str hd
    generalize hH : loI E s hi b.length = H at he
    cases L with
    | none => simp [Tr.eval] at he
    | some l =>
      cases H with
      | none => simp [Tr.eval] at he
      | some hh =>
        obtain ⟨h1, h2⟩ := eval_test he
        obtain ⟨h3, h4, h5⟩ := dec3 h1
        simp only [decide_eq_true_eq] at h3 h4 h5
        simp only [Tr.eval, Option.some.injEq] at h2
        have hsz : sb.size = b.length := by rw [← hsb]; rfl
        have hrun := run_bounds (P := P) (isS := false) (len := sb.size) (cap := sb.size) c hL (by rw [hsz]; exact hH) h3 h4 (by omega)
        refine ⟨_, .string (sb.extract l.toNat hh.toNat), h2.symm, ?_, ⟨_, rfl, by rw [extract_list, hsb]⟩⟩
        simp only [execOp, ho, Option.map_none]
        rw [Sem.run_bind, run_sliceAt_string (P := P) w t _ _ _ _ hu, hx]
        simp [Instr.slice, run_underlying hu, hrun]
  · rename_i e hd
    have ht : (E.ty t).ok = true := by unfold Ty.ok; rw [hd]
    obtain ⟨hu, _⟩ := (c.ty.row ht).slice hd
    split at he
    · rename_i len hq hlen
      have row := c.ty.row hq
      generalize hH : loI E s hi len = H at he
      cases L with
      | none => simp [Tr.eval] at he
      | some l =>
        cases H with
        | none => simp [Tr.eval] at he
        | some hh =>
          obtain ⟨h1, h2⟩ := eval_test he
          obtain ⟨h3, h4, h5⟩ := dec3 h1
          simp only [decide_eq_true_eq] at h3 h4 h5
          have fin : ∀ (ad : Option Addr) (cap : Nat) (v : V), a.eval x = .slice ad len cap → len ≤ cap → r = .ok v [] →
              Rep E.ty w (Own Z h β) v (RefRep E.ty h β) (sliced ad l.toNat hh.toNat cap (E.ty e).size) → Gives E P Z h β w a o r := by
            intro ad cap v hv hc hr hrep
            refine ⟨v, _, hr, ?_, hrep⟩
            have hrun := run_bounds (P := P) (isS := true) (cap := cap) c hL hH h3 h4 (by omega)
            have he2 : P.elem t = e := by simp [Program.elem, hu]
            simp only [execOp, ho, Option.map_none]
            rw [Sem.run_bind, run_sliceAt_slice (P := P) w t _ _ _ _ (by rw [he2]; exact hu), hv]
            simp [Instr.slice, run_underlying hu, hrun, row.size, sliced]
          split at h2
          · rename_i t' vs hv
            rw [hv] at hx hlen
            simp [lenV] at hlen
            subst hlen
            split at h2
            · rename_i hte
              simp only [Tr.eval, Option.some.injEq] at h2
              obtain ⟨ad, cap, hx, hc, hx2⟩ := hx
              refine fin ad cap _ hx hc h2.symm ?_
              by_cases hem : vs = []
              · subst hem
                have hl0 : l.toNat = 0 := by simp at h5; omega
                have hh0 : hh.toNat = 0 := by simp at h5; omega
                rw [hl0, hh0]
                exact ⟨_, _, rfl, Nat.zero_le _, .inl (by simp)⟩
              · rcases hx2 with hx2 | ⟨b, off, rfl, hb, hO, hs⟩
                · exact absurd hx2 hem
                · have hte2 : t' = e := by
                    rcases Bool.or_eq_true_iff.1 hte with h6 | h6
                    · exact nat_of_beq h6
                    · exact absurd (by simpa using h6) hem
                  subst hte2
                  have hlen2 : ((vs.drop l.toNat).take (hh.toNat - l.toNat)).length = hh.toNat - l.toNat := by simp; omega
                  refine ⟨_, cap - l.toNat, by rw [hlen2]; rfl, by rw [hlen2]; omega, ?_⟩
                  by_cases hz : hh.toNat - l.toNat = 0
                  · left; rw [hz]; simp
                  · right
                    refine ⟨b, off + l.toNat * (E.ty t').size, ?_, hb, hO, RepSeq.part vs _ _ hs⟩
                    rw [if_neg (by omega)]
                    simp [Addr.add_lit]
            · simp [Tr.eval] at h2
          · rename_i t' i g n hv
            rw [hv] at hx hlen
            simp [lenV] at hlen
            subst hlen
            split at h2
            · rename_i hte
              have hte2 : t' = e := nat_of_beq hte
              subst hte2
              simp only [Tr.eval, Option.some.injEq] at h2
              obtain ⟨ro, g', tt, vs, hi, hg, ⟨ad, cap, hx, hc, had⟩, hx2⟩ := hx
              refine fin ad cap _ hx hc h2.symm ⟨ro, g', tt, vs, hi, hg, ⟨_, cap - l.toNat, rfl, by omega, fun hne => ?_⟩, fun hgg => ?_⟩
              · obtain ⟨b, off, rfl⟩ := had (by omega)
                refine ⟨b, off + l.toNat * (E.ty t').size, ?_⟩
                split <;> first | omega | (simp [Addr.add_lit]; done)
              · obtain ⟨rfl, rfl, hx3⟩ := hx2 hgg
                rw [hx] at hx3
                simp only [Value.slice.injEq, true_and] at hx3
                obtain ⟨rfl, rfl⟩ := hx3
                refine ⟨rfl, by omega, _, rfl, fun hne => ?_⟩
                have hob := c.cx.ob i
                rw [hi] at hob
                obtain ⟨_, hob | ⟨hn, _⟩⟩ := hob
                · rw [hob.2.2] at hne; simp at hne
                · simp only [Loc.addr, hn]
                  rw [if_neg (by omega)]
                  simp [Addr.add_lit]
            · simp [Tr.eval] at h2
          · rename_i t' i g o2 n hv
            rw [hv] at hx hlen
            simp [lenV] at hlen
            subst hlen
            split at h2
            · rename_i hte
              have hte2 : t' = e := nat_of_beq hte
              subst hte2
              simp only [Tr.eval, Option.some.injEq] at h2
              obtain ⟨ro, g', tt, vs, hi, hg, ⟨ad, cap, hx, hc, had⟩, hx2⟩ := hx
              refine fin ad cap _ hx hc h2.symm ⟨ro, g', tt, vs, hi, hg, ⟨_, cap - l.toNat, rfl, by omega, fun hne => ?_⟩, fun hgg => ?_⟩
              · obtain ⟨b, off, rfl⟩ := had (by omega)
                refine ⟨b, off + l.toNat * (E.ty t').size, ?_⟩
                split <;> first | omega | (simp [Addr.add_lit]; done)
              · obtain ⟨rfl, hle, ad2, hx3, hx4⟩ := hx2 hgg
                rw [hx] at hx3
                simp only [Value.slice.injEq, true_and] at hx3
                obtain ⟨rfl, rfl⟩ := hx3
                have hcc : (β i).cap - (o2 + l.toNat) = (β i).cap - o2 - l.toNat := by omega
                refine ⟨rfl, by omega, ?_⟩
                rw [hcc]
                refine ⟨_, rfl, fun hne => ?_⟩
                rw [if_neg (by omega)]
                rw [hx4 (by omega)]
                simp [Addr.add_lit, Nat.add_mul]
            · simp [Tr.eval] at h2
          · simp [Tr.eval] at h2
    · simp [Tr.eval] at he
  · rename_i n e cs hd hv
    have ht : (E.ty t).ok = true := by unfold Ty.ok; rw [hd]
    obtain ⟨hu, _⟩ := (c.ty.row ht).array hd
    split at he
    · split at he
      · rename_i hq
        simp only [Bool.and_eq_true, Bool.not_eq_true'] at hq
        obtain ⟨⟨⟨hok, hag⟩, hle⟩, hall⟩ := hq
        simp only [Tr.eval, Option.some.injEq] at he
        have row := c.ty.row hok
        have hs1 : (E.ty e).size = 1 := (row.one hag).1
        rw [hv] at hx
        obtain ⟨b, off, l, hx, h1, h2, h3, h4⟩ := hx
        have hle' := Nat.le_of_ble_eq_true hle
        have hll := h4.length
        have hseq := singles row hag hs1 (cs.take n) (l.take n) off (h4.take n) (h3.take n) hall
        have hlen : ((cs.take n).map (etaT (E.ty e))).length = n := by simp; omega
        have hP1 : P.elem t = e := by simp [Program.elem, hu]
        have hP2 : P.arrayLen t = n := by simp [Program.arrayLen, hu]
        have hrun := run_sliceAt_array_all (P := P) w t ⟨b, off, none⟩ (by rw [hP1, hP2]; exact hu)
        rw [hP1, hP2, row.size] at hrun
        refine ⟨_, .slice (some ⟨b, off, none⟩) n n, he.symm, ?_, ⟨_, n, by rw [hlen], by rw [hlen]; exact Nat.le_refl _, .inr ⟨b, off, rfl, h1, h2, hseq⟩⟩⟩
        simp only [execOp, ho, Option.map_none]
        rw [Sem.run_bind, hx, hrun]
        simp [slicedAt, Addr.add_lit]
      · simp [Tr.eval] at he
    · simp [Tr.eval] at he
  · simp [Tr.eval] at he
theorem op_slice3 (c : Ctx E P Z h view β w s a) {t : TypeId} {x hi mx : Operand} (ho : o.op = .slice t x none (some hi) (some mx)) (he : (evOp E view s fr o).eval = some r) : Gives E P Z h β w a o r := by
  simp only [evOp, ho] at he
  have hx := c.val x
  have hh := c.val hi
  have hm := c.val mx
  split at he
  · rename_i e t' vs k n k' n' hd hxv hhv hmv
    rw [hxv] at hx
    rw [hhv] at hh
    rw [hmv] at hm
    split at he
    · rename_i hq
      rw [Bool.and_eq_true] at hq
      obtain ⟨hok, hte⟩ := hq
      obtain ⟨h1, h2⟩ := eval_test he
      obtain ⟨h3, h4, h5⟩ := dec3 h1
      simp only [decide_eq_true_eq] at h3 h4 h5
      subst h5
      simp only [Tr.eval, Option.some.injEq] at h2
      have ht : (E.ty t).ok = true := by unfold Ty.ok; rw [hd]
      obtain ⟨hu, _⟩ := (c.ty.row ht).slice hd
      have row := c.ty.row hok
      obtain ⟨ad, cap, hx, hc, hx2⟩ := hx
      have hh' : a.eval hi = .int k n' := hh
      have hm' : a.eval mx = .int k' n' := hm
      have he2 : P.elem t = e := by simp [Program.elem, hu]
      have hb1 : ∀ code, (Instr.sliceBound (.int k' n') cap code).run P w = .ok n'.toNat w := fun code => run_sliceBound (P := P) w k' n' cap code h3 (by omega)
      have hb2 : ∀ code, (Instr.sliceBound (.int k n') n'.toNat code).run P w = .ok n'.toNat w := fun code => run_sliceBound (P := P) w k n' n'.toNat code h3 (by omega)
      refine ⟨_, sliced ad 0 n'.toNat n'.toNat (E.ty e).size, h2.symm, ?_, ?_⟩
      · simp only [execOp, ho, Option.map_none, Option.map_some, hh', hm']
        rw [Sem.run_bind, run_sliceAt_slice (P := P) w t _ _ _ _ (by rw [he2]; exact hu), hx]
        simp [Instr.slice, run_underlying hu, Instr.sliceBounds, hb1, hb2, row.size, sliced]
      · have hlen : (vs.take n'.toNat).length = n'.toNat := by simp; omega
        have hl0 : (vs.take n'.toNat) = [] ∨ ∃ b off, ad = some ⟨b, off, none⟩ ∧ b < w.heap.size ∧ ¬ Own Z h β b ∧ RepSeq E.ty w (Own Z h β) (vs.take n'.toNat) e b off := by
          rcases hx2 with hx2 | ⟨b, off, h6, hb, hO, hs⟩
          · exact .inl (by rw [hx2]; simp)
          · by_cases hem : vs = []
            · exact .inl (by rw [hem]; simp)
            · have hte2 : t' = e := by
                rcases Bool.or_eq_true_iff.1 hte with h7 | h7
                · exact nat_of_beq h7
                · exact absurd (by simpa using h7) hem
              subst hte2
              have := RepSeq.part vs 0 n'.toNat hs
              simp only [List.drop_zero, Nat.zero_mul, Nat.add_zero] at this
              exact .inr ⟨b, off, h6, hb, hO, this⟩
        show Rep _ _ _ (.fix e (vs.take n'.toNat)) _ _
        rcases hl0 with h6 | ⟨b, off, h6, hb, hO, hs⟩
        · have hn0 : n'.toNat = 0 := by rw [← hlen, h6]; rfl
          rw [hn0]
          exact ⟨ad, by simp [sliced], .inl (by simp)⟩
        · by_cases hn0 : n'.toNat = 0
          · rw [hn0]
            exact ⟨ad, by simp [sliced], .inl (by simp)⟩
          · refine ⟨some ⟨b, off, none⟩, by rw [hlen, h6]; unfold sliced; rw [if_neg hn0]; simp [Addr.add_lit], .inr ⟨b, off, rfl, hb, hO, hs⟩⟩
    · simp [Tr.eval] at he
  · simp [Tr.eval] at he
end
end Go.AH

namespace Go.AH
open Go Go.RowKit

section
variable {E : Env} {P : Program} {Z : Nat → Prop} {h view : Nat → Ob} {β : Nat → Loc} {w : World} {s : Nat → V} {a : Act} {fr : Nat} {o : Oper} {r : Rs}

theorem ok_of {ty : Ty} {d : TD} (hd : ty.d = d) (hne : d ≠ .other) : ty.ok = true := by
  unfold Ty.ok
  rw [hd]
  cases d <;> first | rfl | exact absurd rfl hne
theorem cells_info {t : TypeId} (h : (P.info? t).isSome = true) (w : World) : (sizeOf t).run P w = .ok (P.cellsOf t) w := by
  cases hi : P.info? t with
  | none => rw [hi] at h; cases h
  | some i => simp [sizeOf, typeInfo, hi, Program.cellsOf]
theorem op_fieldAddr (c : Ctx E P Z h view β w s a) {t : TypeId} {x : Operand} {f : Nat} (ho : o.op = .fieldAddr t x f) (he : (evOp E view s fr o).eval = some r) : Gives E P Z h β w a o r := by
  simp only [evOp, ho] at he
  have hx := c.val x
  split at he
  · rename_i gs hd
    have row := c.ty.row (ok_of hd (by simp))
    obtain ⟨fs, hu, rfl, _, hfs, _⟩ := row.struct hd
    have fin : ∀ (off n : Nat) (ag : Bool) (b k : Nat) (v : V), (fs.toList.map fun f => (f.offset, P.cellsOf f.type, aggB P f.type))[f]? = some (off, n, ag) → a.eval x = .pointer (some ⟨b, k, none⟩) → r = .ok v [] → Rep E.ty w (Own Z h β) v (RefRep E.ty h β) (.pointer (some ⟨b, k + off, none⟩)) → Gives E P Z h β w a o r := by
      intro off n ag b k v hf hv hr hrep
      rw [List.getElem?_map] at hf
      cases hq : fs.toList[f]? with
      | none => rw [hq] at hf; cases hf
      | some fl =>
        rw [hq] at hf
        simp only [Option.map_some, Option.some.injEq, Prod.mk.injEq] at hf
        obtain ⟨rfl, rfl, rfl⟩ := hf
        have hq' : fs[f]? = some fl := by simpa using hq
        obtain ⟨h1, h2, h3⟩ := hfs fl (List.mem_of_getElem? hq)
        refine ⟨v, _, hr, ?_, hrep⟩
        simp [execOp, ho, hv, Instr.fieldAt, run_underlying hu, hq', Instr.sureAddr, fieldPlace, cells_info h1, h3, Addr.add_lit]
    split at he
    · rename_i off n ag cs hf hv
      simp only [Tr.eval, Option.some.injEq] at he
      rw [hv] at hx
      obtain ⟨b, k, l, hx, h1, h2, h3, h4⟩ := hx
      exact fin off n ag b k _ hf hx he.symm ⟨b, k + off, l.drop off, rfl, h1, h2, h3.drop off, h4.drop off⟩
    · rename_i off n ag i j hf hv
      simp only [Tr.eval, Option.some.injEq] at he
      rw [hv] at hx
      obtain ⟨h1, hx⟩ := hx
      exact fin off n ag _ j _ hf hx he.symm ⟨h1, rfl⟩
    · rename_i off n ag i g k j hf hv
      simp only [Tr.eval, Option.some.injEq] at he
      rw [hv] at hx
      obtain ⟨ro, g', t', vs, hi, hg, ⟨pb, po, hp⟩, h2⟩ := hx
      refine fin off n ag pb po _ hf hp he.symm ⟨ro, g', t', vs, hi, hg, ⟨_, _, rfl⟩, fun hgg => ?_⟩
      obtain ⟨h3, h4⟩ := h2 hgg
      rw [hp] at h4
      simp only [Value.pointer.injEq, Option.some.injEq, Addr.mk.injEq, and_true] at h4
      obtain ⟨rfl, rfl⟩ := h4
      exact ⟨h3, by rw [Nat.add_assoc, Nat.add_assoc]⟩
    · simp [Tr.eval] at he
  · simp [Tr.eval] at he
theorem op_index (c : Ctx E P Z h view β w s a) {t : TypeId} {x y : Operand} (ho : o.op = .index t x y) (he : (evOp E view s fr o).eval = some r) : Gives E P Z h β w a o r := by
  simp only [evOp, ho] at he
  have hx := c.val x
  have hy := c.val y
  split at he
  · rename_i b k n hd hb hn
    obtain ⟨hu, _⟩ := (c.ty.row (ok_of hd (by simp))).str hd
    rw [hb] at hx
    rw [hn] at hy
    obtain ⟨sb, hx, hsb⟩ := hx
    have hy' : a.eval y = .int k n := hy
    obtain ⟨h1, h2⟩ := eval_test he
    simp only [Bool.and_eq_true, decide_eq_true_eq] at h1
    simp only [Tr.eval, Option.some.injEq] at h2
    have hsz : sb.size = b.length := by rw [← hsb]; rfl
    have hlt : n.toNat < sb.size := by omega
    refine ⟨_, .int .u8 (sb[n.toNat]'hlt).toNat, h2.symm, ?_, ?_⟩
    · simp only [execOp, ho, hx, hy']
      rw [Sem.run_bind, run_index_string (P := P) w t sb k n hu, dif_pos ⟨h1.1, by omega⟩]
      rfl
    · show _ = _
      congr 2
      have : b.getD n.toNat 0 = sb[n.toNat]'hlt := by
        subst hsb
        rw [List.getD_eq_getElem?_getD, List.getElem?_eq_getElem (by simpa using hlt)]
        rfl
      rw [this]
  · rename_i m e cs k n hd hb hn
    rw [hb] at hx
    rw [hn] at hy
    obtain ⟨hu, _⟩ := (c.ty.row (ok_of hd (by simp))).array hd
    have hy' : a.eval y = .int k n := hy
    obtain ⟨arr, hx, hl⟩ := hx
    split at he
    · rename_i hq
      rw [Bool.and_eq_true] at hq
      have hle := Nat.le_of_ble_eq_true hq.2
      have row := c.ty.row hq.1
      obtain ⟨h1, h2⟩ := eval_test he
      simp only [Bool.and_eq_true, decide_eq_true_eq] at h1
      simp only [Tr.eval, Option.some.injEq] at h2
      have hnm : n.toNat < m := by omega
      have hsz := row.pos
      have hin : n.toNat * (E.ty e).size + (E.ty e).size ≤ cs.length := by
        have : (n.toNat + 1) * (E.ty e).size ≤ m * (E.ty e).size := Nat.mul_le_mul_right _ (by omega)
        rw [Nat.add_mul, Nat.one_mul] at this
        omega
      have hll := hl.length
      have hdt := (hl.drop (n.toNat * (E.ty e).size)).take (E.ty e).size
      have hrun : (Instr.index t (.agg arr) (.int k n)).run P w = (part e arr (n.toNat * (E.ty e).size)).run P w := by
        simp [Instr.index, asIntOf, run_underlying hu, h1.1, h1.2, row.size]
      cases hag : (E.ty e).agg with
      | true =>
        rw [hag] at h2
        refine ⟨_, .agg (arr.extract (n.toNat * (E.ty e).size) (n.toNat * (E.ty e).size + (E.ty e).size)), h2.symm, ?_, ⟨_, rfl, ?_⟩⟩
        · simp only [execOp, ho, hx, hy']
          rw [Sem.run_bind, hrun]
          simp [part, row.agg, hag, row.size]
        · have : (arr.extract (n.toNat * (E.ty e).size) (n.toNat * (E.ty e).size + (E.ty e).size)).toList = (arr.toList.drop (n.toNat * (E.ty e).size)).take (E.ty e).size := by
            rw [Array.toList_extract]
            simp
          rw [this]
          exact hdt
      | false =>
        rw [hag] at h2
        cases hcs : (cs.drop (n.toNat * (E.ty e).size)).take (E.ty e).size with
        | nil =>
          have := congrArg List.length hcs
          simp at this
          omega
        | cons u us =>
          rw [hcs] at hdt h2
          obtain ⟨v, l, hvl, hr, _⟩ := hdt
          refine ⟨_, v, h2.symm, ?_, hr⟩
          have hget : arr[n.toNat * (E.ty e).size]? = some v := by
            have h7 := congrArg (fun l => l[0]?) hvl
            simp only [List.getElem?_take, List.getElem?_drop, List.getElem?_cons_zero] at h7
            rw [if_pos hsz, Nat.add_zero] at h7
            simpa using h7
          simp only [execOp, ho, hx, hy']
          rw [Sem.run_bind, hrun]
          simp [part, row.agg, hag, hget]
    · simp [Tr.eval] at he
  · simp [Tr.eval] at he
theorem op_field (c : Ctx E P Z h view β w s a) {t : TypeId} {x : Operand} {f : Nat} (ho : o.op = .field t x f) (he : (evOp E view s fr o).eval = some r) : Gives E P Z h β w a o r := by
  simp only [evOp, ho] at he
  have hx := c.val x
  split at he
  · rename_i gs hd
    have row := c.ty.row (ok_of hd (by simp))
    obtain ⟨fs, hu, rfl, _, hfs, _⟩ := row.struct hd
    split at he
    · rename_i off n ag cs hf hv
      split at he
      · rename_i hle
        simp only [Tr.eval, Option.some.injEq] at he
        rw [hv] at hx
        obtain ⟨arr, hx, hl⟩ := hx
        rw [List.getElem?_map] at hf
        cases hq : fs.toList[f]? with
        | none => rw [hq] at hf; cases hf
        | some fl =>
          rw [hq] at hf
          simp only [Option.map_some, Option.some.injEq, Prod.mk.injEq] at hf
          obtain ⟨rfl, rfl, rfl⟩ := hf
          have hq' : fs[f]? = some fl := by simpa using hq
          obtain ⟨h1, h2, h3⟩ := hfs fl (List.mem_of_getElem? hq)
          have hle' : fl.offset + P.cellsOf fl.type ≤ cs.length := Nat.le_of_ble_eq_true hle
          have hll := hl.length
          have hagg : (isAgg fl.type).run P w = .ok (aggB P fl.type) w := by
            cases hun : P.underlying fl.type with
            | none => rw [hun] at h2; cases h2
            | some d => cases d <;> simp [isAgg, run_underlying hun, aggB, hun]
          have hdt := (hl.drop fl.offset).take (P.cellsOf fl.type)
          cases hb : aggB P fl.type with
          | true =>
            rw [hb] at hagg he
            refine ⟨_, .agg (arr.extract fl.offset (fl.offset + P.cellsOf fl.type)), he.symm, ?_, ⟨_, rfl, ?_⟩⟩
            · simp [execOp, ho, hx, Instr.field, run_underlying hu, hq', asAgg, part, hagg, cells_info h1]
            · have : (arr.extract fl.offset (fl.offset + P.cellsOf fl.type)).toList = (arr.toList.drop fl.offset).take (P.cellsOf fl.type) := by
                rw [Array.toList_extract]
                simp
              rw [this]
              exact hdt
          | false =>
            rw [hb] at hagg he
            cases hcs : (cs.drop fl.offset).take (P.cellsOf fl.type) with
            | nil =>
              have := congrArg List.length hcs
              simp at this
              omega
            | cons u us =>
              rw [hcs] at hdt he
              obtain ⟨y, rest, hy, hu1, _⟩ := hdt
              have hy2 : arr[fl.offset]? = some y := by
                have : ((arr.toList.drop fl.offset).take (P.cellsOf fl.type))[0]? = some y := by rw [hy]; rfl
                rw [List.getElem?_take] at this
                split at this
                · simpa using this
                · cases this
              refine ⟨_, y, he.symm, ?_, hu1⟩
              simp [execOp, ho, hx, Instr.field, run_underlying hu, hq', asAgg, part, hagg, hy2]
      · simp [Tr.eval] at he
    · simp [Tr.eval] at he
  · simp [Tr.eval] at he
end
end Go.AH

namespace Go.AH
open Go Go.RowKit

section
variable {E : Env} {P : Program} {Z : Nat → Prop} {h view : Nat → Ob} {β : Nat → Loc} {w : World} {s : Nat → V} {a : Act} {fr : Nat} {o : Oper} {r : Rs}

theorem run_indexAt {t e : TypeId} (hu : P.underlying t = some (.slice e)) {ty : Ty} (row : Row P e ty) (ad : Addr) (len cap : Nat) (k : IntKind) (n : Int) (h0 : 0 ≤ n) (h1 : n < len) :
    (Instr.indexAt t (.slice (some ad) len cap) (.int k n)).run P w = .ok (.pointer (some (ad.add (n.toNat * ty.size)))) w := by
  simp [Instr.indexAt, asIntOf, run_underlying hu, h0, h1, row.size]
theorem op_indexAddr (c : Ctx E P Z h view β w s a) {t : TypeId} {x y : Operand} (ho : o.op = .indexAddr t x y) (he : (evOp E view s fr o).eval = some r) : Gives E P Z h β w a o r := by
  simp only [evOp, ho] at he
  have hx := c.val x
  have hy := c.val y
  split at he
  · rename_i k n hn
    rw [hn] at hy
    have hy' : a.eval y = .int k n := hy
    split at he
    · rename_i e hd
      obtain ⟨hu, _⟩ := (c.ty.row (ok_of hd (by simp))).slice hd
      split at he
      · rename_i t' vs hv
        rw [hv] at hx
        split at he
        · rename_i hte
          rw [Bool.and_eq_true] at hte
          have := nat_of_beq hte.1
          subst this
          have row := c.ty.row hte.2
          obtain ⟨h1, h2⟩ := eval_test he
          simp only [Bool.and_eq_true, decide_eq_true_eq] at h1
          simp only [Tr.eval, Option.some.injEq] at h2
          obtain ⟨ad, cap, hx, _, hx2 | ⟨b, off, rfl, hb, hO, hs⟩⟩ := hx
          · subst hx2; simp at h1; omega
          · have hlt : n.toNat < vs.length := by omega
            have hkk : vs[n.toNat]? = some vs[n.toNat] := List.getElem?_eq_getElem hlt
            obtain ⟨f1, f2, cs, h6, h7, h8⟩ := RepSeq.get hs hkk
            have hgd : vs.getD n.toNat .top = vs[n.toNat] := by rw [List.getD_eq_getElem?_getD, hkk]; rfl
            rw [hgd, f2] at h2
            refine ⟨_, .pointer (some ⟨b, off + n.toNat * (E.ty t').size, none⟩), h2.symm, ?_, ⟨_, _, cs, rfl, hb, hO, h7, mkVal_rep row f1 h6 h8⟩⟩
            simp [execOp, ho, hx, hy', run_indexAt hu row _ _ _ k n h1.1 h1.2, Addr.add_lit]
        · simp [Tr.eval] at he
      · rename_i t' i g m hv
        rw [hv] at hx
        obtain ⟨h1, h2⟩ := eval_test he
        simp only [Bool.and_eq_true, decide_eq_true_eq] at h1
        simp only [Tr.eval, Option.some.injEq] at h2
        obtain ⟨⟨⟨hte, hok⟩, h3⟩, h4⟩ := h1
        have := nat_of_beq hte
        subst this
        have row := c.ty.row hok
        obtain ⟨ro, g', tt, vs, hi, hg, ⟨ad, cap, hx, hc, had⟩, hx2⟩ := hx
        obtain ⟨b, off, rfl⟩ := had (by omega)
        refine ⟨_, .pointer (some ⟨b, off + n.toNat * (E.ty t').size, none⟩), h2.symm, ?_, ⟨ro, g', tt, vs, hi, hg, ⟨_, _, rfl⟩, fun hgg => ?_⟩⟩
        · simp [execOp, ho, hx, hy', run_indexAt hu row _ _ _ k n h3 h4, Addr.add_lit]
        · obtain ⟨rfl, rfl, hx3⟩ := hx2 hgg
          rw [hx] at hx3
          simp only [Value.slice.injEq, true_and, Loc.addr] at hx3
          obtain ⟨hx3, rfl⟩ := hx3
          split at hx3
          · cases hx3
          · simp only [Option.some.injEq, Addr.mk.injEq, and_true] at hx3
            obtain ⟨rfl, rfl⟩ := hx3
            exact ⟨by omega, by simp⟩
      · rename_i t' i g o2 m hv
        rw [hv] at hx
        obtain ⟨h1, h2⟩ := eval_test he
        simp only [Bool.and_eq_true, decide_eq_true_eq] at h1
        simp only [Tr.eval, Option.some.injEq] at h2
        obtain ⟨⟨⟨hte, hok⟩, h3⟩, h4⟩ := h1
        have := nat_of_beq hte
        subst this
        have row := c.ty.row hok
        obtain ⟨ro, g', tt, vs, hi, hg, ⟨ad, cap, hx, hc, had⟩, hx2⟩ := hx
        obtain ⟨b, off, rfl⟩ := had (by omega)
        refine ⟨_, .pointer (some ⟨b, off + n.toNat * (E.ty t').size, none⟩), h2.symm, ?_, ⟨ro, g', tt, vs, hi, hg, ⟨_, _, rfl⟩, fun hgg => ?_⟩⟩
        · simp [execOp, ho, hx, hy', run_indexAt hu row _ _ _ k n h3 h4, Addr.add_lit]
        · obtain ⟨rfl, hle, ad2, hx3, hx4⟩ := hx2 hgg
          rw [hx] at hx3
          simp only [Value.slice.injEq, true_and] at hx3
          obtain ⟨rfl, rfl⟩ := hx3
          have := hx4 (by omega)
          simp only [Option.some.injEq, Addr.mk.injEq, and_true] at this
          obtain ⟨rfl, rfl⟩ := this
          exact ⟨by omega, by simp [Nat.add_mul]⟩
      · rename_i t' i m hv
        rw [hv] at hx
        obtain ⟨h1, h2⟩ := eval_test he
        simp only [Bool.and_eq_true, decide_eq_true_eq] at h1
        simp only [Tr.eval, Option.some.injEq] at h2
        obtain ⟨⟨⟨hte, hok⟩, h3⟩, h4⟩ := h1
        have := nat_of_beq hte
        subst this
        have row := c.ty.row hok
        obtain ⟨hb, cap, hc, hx⟩ := hx
        refine ⟨_, .pointer (some ⟨(β i).b, 0 + n.toNat * (E.ty t').size, none⟩), h2.symm, ?_, ⟨hb, by rw [Nat.zero_add]⟩⟩
        simp [execOp, ho, hx, hy', run_indexAt hu row _ _ _ k n h3 h4, Addr.add_lit]
      · simp [Tr.eval] at he
    · rename_i m e hd
      obtain ⟨hu, _, hce, hinfo, hm2⟩ := (c.ty.row (ok_of hd (by simp))).array hd
      obtain ⟨h1, h2⟩ := eval_test he
      simp only [Bool.and_eq_true, decide_eq_true_eq] at h1
      obtain ⟨⟨hok, h3⟩, h4⟩ := h1
      have hce2 := (c.ty.row hok).cellsOf
      have fin : ∀ (b off : Nat) (v : V), a.eval x = .pointer (some ⟨b, off, none⟩) → r = .ok v [] → Rep E.ty w (Own Z h β) v (RefRep E.ty h β) (.pointer (some ⟨b, off + n.toNat * (E.ty e).size, none⟩)) → Gives E P Z h β w a o r := by
        intro b off v hv hr hrep
        refine ⟨v, _, hr, ?_, hrep⟩
        rw [← hce2]
        simp [execOp, ho, hv, hy', Instr.indexAt, asIntOf, run_underlying hu, Instr.sureAddr, h3, h4, cells_info hinfo, Addr.add_lit]
      split at h2
      · rename_i cs hv
        simp only [Tr.eval, Option.some.injEq] at h2
        rw [hv] at hx
        obtain ⟨b, off, l, hx, q1, q2, q3, q4⟩ := hx
        exact fin b off _ hx h2.symm ⟨b, _, _, rfl, q1, q2, q3.drop _, q4.drop _⟩
      · rename_i i j hv
        simp only [Tr.eval, Option.some.injEq] at h2
        rw [hv] at hx
        obtain ⟨q1, hx⟩ := hx
        exact fin _ j _ hx h2.symm ⟨q1, rfl⟩
      · rename_i i g k2 j hv
        simp only [Tr.eval, Option.some.injEq] at h2
        rw [hv] at hx
        obtain ⟨ro, g', t', vs, hi, hg, ⟨pb, po, hp⟩, q2⟩ := hx
        refine fin pb po _ hp h2.symm ⟨ro, g', t', vs, hi, hg, ⟨_, _, rfl⟩, fun hgg => ?_⟩
        obtain ⟨q3, q4⟩ := q2 hgg
        rw [hp] at q4
        simp only [Value.pointer.injEq, Option.some.injEq, Addr.mk.injEq, and_true] at q4
        obtain ⟨rfl, rfl⟩ := q4
        exact ⟨q3, by rw [Nat.add_assoc, Nat.add_assoc]⟩
      · simp [Tr.eval] at h2
    · simp [Tr.eval] at he
  · simp [Tr.eval] at he

/- Conversions, built-in functions. -/
theorem RepSeq.bytes {T : TypeId → Ty} {O : Nat → Prop} {t b : Nat} (hk : (T t).kinds = [.int .u8]) (ha : (T t).agg = false) (hs : (T t).size = 1) : ∀ {vs : List V} {off : Nat}, RepSeq T w O vs t b off → ∀ i, i < vs.length → w.cell? ⟨b, off + i, none⟩ = some (.int .u8 ((vs.map V.toI).getD i 0))
  | [], _, _, i, hi => by simp at hi
  | v :: vs, off, h, i, hi => by
    obtain ⟨⟨f1, _⟩, ⟨cs, h3, h4, h5⟩, h6⟩ := h
    cases i with
    | zero =>
      rw [hs] at h3
      match cs, h3, h4, h5 with
      | [c], _, h4, h5 =>
        have := h4 0 c rfl
        rw [this]
        rw [ha] at h5
        have hv : ∃ n, v = .int .u8 n := by
          cases v <;> simp [isFormT, hk, ha, isForm] at f1
          subst f1
          exact ⟨_, rfl⟩
        obtain ⟨n, rfl⟩ := hv
        rw [show c = _ from h5]
        simp [V.toI]
    | succ i =>
      have := RepSeq.bytes hk ha hs h6 i (by simpa using hi)
      rw [hs] at this
      rw [show off + (i + 1) = off + 1 + i from by omega, this]
      simp
theorem bytesOf_eq (vs : List V) : bytesOf vs = (vs.map V.toI).map (fun n => UInt8.ofNat n.toNat) := by
  induction vs with
  | nil => rfl
  | cons v vs ih => simp [bytesOf, ih]
theorem op_convert (c : Ctx E P Z h view β w s a) {src dst : TypeId} {x : Operand} (hns : ∀ e b, (E.ty dst).d = .slice e → ev E s x ≠ .str b) (ho : o.op = .convert src dst x) (he : (evOp E view s fr o).eval = some r) : Gives E P Z h β w a o r := by
  simp only [evOp, ho] at he
  have hx := c.val x
  split at he
  · rename_i k k' n hd hv
    split at he
    · rename_i hs
      simp only [Tr.eval, Option.some.injEq] at he
      rw [hv] at hx
      have hx' : a.eval x = .int k' n := hx
      have h1 := (c.ty.row hs).under
      obtain ⟨h2, _⟩ := (c.ty.row (ok_of hd (by simp))).int hd
      exact ⟨_, _, he.symm, by obtain ⟨d, hd1⟩ := Option.isSome_iff_exists.1 h1; simp [execOp, ho, hx', convert, run_underlying hd1, run_underlying h2, Conv.intToInt], rfl⟩
    · simp [Tr.eval] at he
  · rename_i b hd hv
    split at he
    · rename_i hs
      simp only [Tr.eval, Option.some.injEq] at he
      rw [hv] at hx
      obtain ⟨sb, hx, hsb⟩ := hx
      obtain ⟨h1, _⟩ := (c.ty.row (ok_of hd (by simp))).str hd
      obtain ⟨h2, _⟩ := (c.ty.row (ok_of hs (by simp))).str hs
      exact ⟨_, .string sb, he.symm, by simp [execOp, ho, hx, convert, run_underlying h1, run_underlying h2], ⟨sb, rfl, hsb⟩⟩
    · simp [Tr.eval] at he
  · rename_i v hd hn
    split at he
    · rename_i e hs
      split at he
      · rename_i t' vs hde hels
        obtain ⟨h1, _⟩ := (c.ty.row (ok_of hd (by simp))).str hd
        obtain ⟨h2, _⟩ := (c.ty.row (ok_of hs (by simp))).slice hs
        have rowe := c.ty.row (ok_of hde (by simp))
        obtain ⟨h3, h4, h5⟩ := rowe.int hde
        split at he
        · rename_i hte
          have := nat_of_beq hte
          subst this
          simp only [Tr.eval, Option.some.injEq] at he
          obtain ⟨ad, cap, hx, _, hx2⟩ := els_sound c.cx c.sees hx hels
          rcases hx2 with rfl | ⟨b, off, rfl, hb, hs2⟩
          · refine ⟨_, .string ByteArray.empty, he.symm, ?_, ⟨_, rfl, rfl⟩⟩
            cases ad with
            | none => simp [execOp, ho, hx, run_convert_bytes_nil (P := P) w src t' h2 h3 _ cap dst h1]
            | some ad => simp [execOp, ho, hx, convert, run_underlying h1, run_underlying h2, run_underlying h3, Conv.bytesToString, loadCells, loadCellsFrom]
          · have hsz := (rowe.one h4).1
            have hc := RepSeq.bytes (w := w) h5 h4 hsz hs2
            have hrun := run_convert_bytes_arg (P := P) w src t' h2 h3 b off vs.length cap (vs.map V.toI) (by simp) hc dst h1
            refine ⟨_, .string (strOfNums (vs.map V.toI)), he.symm, by simp [execOp, ho, hx, hrun], ⟨_, rfl, by rw [strOfNums_data, bytesOf_eq]⟩⟩
        · simp [Tr.eval] at he
      · simp [Tr.eval] at he
    · simp [Tr.eval] at he
  · rename_i e b hd hv
    exact absurd hv (hns e b hd)
  · simp [Tr.eval] at he
end
end Go.AH

namespace Go.AH
open Go Go.RowKit

theorem foldl_set (v : List Value) : ∀ (off k : Nat) (cells : Array Value), off + k + v.length ≤ cells.size →
    ((v.zipIdx k).foldl (fun cs (x : Value × Nat) => cs.setIfInBounds (off + x.2) x.1) cells).toList = cells.toList.take (off + k) ++ v ++ cells.toList.drop (off + k + v.length) := by
  induction v with
  | nil => intro off k cells h; simp
  | cons x v ih =>
    intro off k cells h
    simp only [List.zipIdx_cons, List.foldl_cons]
    rw [ih off (k + 1) _ (by simp at h ⊢; omega)]
    simp only [List.length_cons] at h
    have h1 : off + k < cells.toList.length := by simp; omega
    simp only [Array.toList_setIfInBounds]
    rw [← Nat.add_assoc, List.take_succ_eq_append_getElem (by simpa using h1)]
    rw [List.take_set_of_le (Nat.le_refl _), List.getElem_set_self, List.drop_set_of_lt (by omega)]
    simp only [List.append_assoc, List.singleton_append, List.length_cons]
    congr 3
    omega

section
variable {E : Env} {P : Program} {Z : Nat → Prop} {h view : Nat → Ob} {β : Nat → Loc} {w : World} {s : Nat → V} {a : Act} {fr : Nat} {o : Oper} {r : Rs}

theorem cellsOk_rep {T : TypeId → Ty} {O : Nat → Prop} {R : V → Value → Prop} {v : V} {x : Value} (hr : Rep T w O v R x) (hv : v.cellsOk = true) (hR : ∀ r y, R r y → y.oneCell' = true) : RepL T w O v.cells R x.cells.toList := by
  refine hr.cells ?_ hR
  cases v <;> first | exact .inl rfl | exact .inr hv
theorem refOne {T : TypeId → Ty} (r : V) (y : Value) (hr : RefRep T h β r y) : y.oneCell' = true := by
  cases r with
  | box i j => rw [hr.2]; rfl
  | full t i g n => obtain ⟨_, _, _, _, _, _, ⟨_, _, rfl, _⟩, _⟩ := hr; rfl
  | sub t i g o n => obtain ⟨_, _, _, _, _, _, ⟨_, _, rfl, _⟩, _⟩ := hr; rfl
  | elt i g k j => obtain ⟨_, _, _, _, _, _, ⟨_, _, rfl⟩, _⟩ := hr; rfl
  | mref i => rw [hr.2]; rfl
  | bsl t i n => obtain ⟨_, _, _, rfl⟩ := hr; rfl
  | itr i => rw [hr.2]; rfl
  | _ => exact hr.elim
theorem fill_sound (c : Ctx E P Z h view β w s a) {fs : List (Nat × Nat × Bool)} {place : Nat → Option (Nat × Nat)} (hp : ∀ i off n ag, fs[i]? = some (off, n, ag) → place i = some (off, n)) :
    ∀ (parts : List (Nat × Operand)) (cs cs' : List V) (cells : Array Value), RepL E.ty w (Own Z h β) cs (RefRep E.ty h β) cells.toList → fillAgg fs (ev E s) parts cs = some cs' →
    ∃ cells', Instr.fill place cells (parts.map fun x => (x.1, a.eval x.2)) = some cells' ∧ RepL E.ty w (Own Z h β) cs' (RefRep E.ty h β) cells'.toList
  | [], cs, cs', cells, hr, hf => by
    simp [fillAgg] at hf
    subst hf
    exact ⟨cells, rfl, hr⟩
  | (i, x) :: parts, cs, cs', cells, hr, hf => by
    unfold fillAgg at hf
    split at hf
    · rename_i off n ag hi
      split at hf
      · rename_i hc
        simp only [Bool.and_eq_true] at hc
        obtain ⟨⟨hc1, hc2⟩, hc3⟩ := hc
        have h1 := nat_of_beq hc2
        have h2 := Nat.le_of_ble_eq_true hc3
        have hx := cellsOk_rep (c.val x) hc1 refOne
        have hl := hx.length
        have hl2 := hr.length
        have hsz : (a.eval x).cells.size = n := by rw [← h1, ← hl]; simp
        have hcs : cells.size = cs.length := by rw [← hl2]; simp
        simp only [List.map_cons, Instr.fill, hp i off n ag hi]
        have hcond : ¬ ((decide ((a.eval x).cells.size ≠ n) || decide (off + (a.eval x).cells.size > cells.size)) = true) := by rw [hsz, hcs]; simp; omega
        rw [if_neg hcond]
        have hset := foldl_set (a.eval x).cells.toList off 0 cells (by rw [Array.length_toList, hsz, hcs]; omega)
        have heq : ((a.eval x).cells.zipIdx.foldl (fun cs (x : Value × Nat) => cs.setIfInBounds (off + x.2) x.1) cells).toList = cells.toList.take off ++ (a.eval x).cells.toList ++ cells.toList.drop (off + n) := by
          rw [← Array.foldl_toList, Array.toList_zipIdx, hset]
          simp [hsz]
        refine fill_sound c hp parts _ cs' _ ?_ hf
        rw [heq]
        exact ((hr.take off).append hx).append (hr.drop _)
      · cases hf
    · cases hf
theorem op_build (c : Ctx E P Z h view β w s a) {t : TypeId} {parts : Array (Nat × Operand)} (ho : o.op = .build t parts) (he : (evOp E view s fr o).eval = some r) : Gives E P Z h β w a o r := by
  simp only [evOp, ho] at he
  split at he
  · rename_i gs hd
    have row := c.ty.row (ok_of hd (by simp))
    obtain ⟨fs, hu, rfl, _, hfs, _⟩ := row.struct hd
    obtain ⟨i, z, hi, h1, h2, hz, h3, _⟩ := row.info
    cases hq : fillAgg (fs.toList.map fun f => (f.offset, P.cellsOf f.type, aggB P f.type)) (ev E s) parts.toList (zeroB (E.ty t)).cells with
    | none => rw [hq] at he; simp [optTr, Tr.eval] at he
    | some cs =>
      rw [hq] at he
      simp only [optTr, Tr.eval, Option.some.injEq] at he
      have hpl : ∀ (l : List Field), (∀ f ∈ l, (P.info? f.type).isSome = true) → l.mapM (fun f => (P.info? f.type).map fun i => (f.offset, i.size)) = some (l.map fun f => (f.offset, P.cellsOf f.type)) := by
        intro l
        induction l with
        | nil => intro _; rfl
        | cons f l ih =>
          intro hl
          have h5 := hl f (by simp)
          cases hif : P.info? f.type with
          | none => rw [hif] at h5; cases h5
          | some i5 => simp [List.mapM_cons, hif, ih (fun g hg => hl g (by simp [hg])), Program.cellsOf]
      obtain ⟨z', hz1, hz2, hz3, hz4⟩ := row.rep_zeroB (T := E.ty) (w := w) (O := Own Z h β) w (RefRep E.ty h β)
      have hzz : z' = z := by
        have : (zeroValue t).run P w = .ok z w := by simp [zeroValue, typeInfo, hi, hz]
        rw [this] at hz1
        simpa using hz1.symm
      subst hzz
      obtain ⟨cells, hc1, hc2⟩ := fill_sound c (place := fun x => (fs.toList.map fun f => (f.offset, P.cellsOf f.type))[x]?) (fun i off n ag hh => by
        rw [List.getElem?_map] at hh ⊢
        cases hx : fs.toList[i]? with
        | none => rw [hx] at hh; cases hh
        | some f => rw [hx] at hh; simp at hh ⊢; exact ⟨hh.1, hh.2.1⟩) parts.toList _ _ z'.cells hz3 hq
      refine ⟨_, .agg cells, he.symm, ?_, ⟨_, rfl, hc2⟩⟩
      have hb := run_build (P := P) w t (parts.map fun (i, x) => (i, a.eval x)) cells (by
        unfold Program.built
        simp only [hi, hu, hz, hpl fs.toList (fun f hf => (hfs f hf).1)]
        simpa using hc1)
      simp [execOp, ho, hb]
  · rename_i n e hd
    have row := c.ty.row (ok_of hd (by simp))
    obtain ⟨hu, _⟩ := row.array hd
    obtain ⟨i, z, hi, h1, h2, hz, h3, _⟩ := row.info
    cases hok : (E.ty e).ok with
    | false => rw [hok] at he; simp [optTr, Tr.eval] at he
    | true =>
      rw [hok] at he
      obtain ⟨ie, ze, hie, hs, _⟩ := (c.ty.row hok).info
      cases hq : fillAgg ((List.range n).map fun i => (i * (E.ty e).size, (E.ty e).size, false)) (ev E s) parts.toList (zeroB (E.ty t)).cells with
      | none => rw [hq] at he; simp [optTr, Tr.eval] at he
      | some cs =>
        rw [hq] at he
        simp only [optTr, Tr.eval, Option.some.injEq] at he
        obtain ⟨z', hz1, hz2, hz3, hz4⟩ := row.rep_zeroB (T := E.ty) (w := w) (O := Own Z h β) w (RefRep E.ty h β)
        have hzz : z' = z := by
          have : (zeroValue t).run P w = .ok z w := by simp [zeroValue, typeInfo, hi, hz]
          rw [this] at hz1
          simpa using hz1.symm
        subst hzz
        obtain ⟨cells, hc1, hc2⟩ := fill_sound c (place := fun i => some (i * ie.size, ie.size)) (fun i off n' ag hh => by
          rw [List.getElem?_map] at hh
          cases hx : (List.range n)[i]? with
          | none => rw [hx] at hh; cases hh
          | some k =>
            rw [hx] at hh
            have hk : k = i := by
              obtain ⟨h5, h6⟩ := List.getElem?_eq_some_iff.1 hx
              rw [List.getElem_range] at h6
              exact h6.symm
            simp at hh
            rw [hs]
            simp [← hh.1, ← hh.2.1, hk]) parts.toList _ _ z'.cells hz3 hq
        refine ⟨_, .agg cells, he.symm, ?_, ⟨_, rfl, hc2⟩⟩
        have hb := run_build (P := P) w t (parts.map fun (i, x) => (i, a.eval x)) cells (by
          unfold Program.built
          simp only [hi, hu, hz, hie]
          simpa using hc1)
        simp [execOp, ho, hb]
  · simp [Tr.eval] at he
end
end Go.AH

namespace Go.AH
open Go Go.RowKit

def findRes (f : Value → Bool) : List MapEntry → Nat → Option (Nat × Value)
  | [], _ => none
  | e :: es, i => if f e.key then some (i, e.val) else findRes f es (i + 1)
theorem findNow_eq {d : TypeDesc} {x : Value} {f : Value → Bool} : ∀ (es : List MapEntry) (i : Nat), (∀ e ∈ es, Instr.sameNow d x e.key = some (f e.key)) → Instr.findNow d x es i = some (findRes f es i)
  | [], i, _ => rfl
  | e :: es, i, h => by
    unfold Instr.findNow findRes
    rw [h e (by simp)]
    cases f e.key
    · exact findNow_eq es (i + 1) (fun e' h' => h e' (by simp [h']))
    · rfl
section
variable {P : Program} {w : World} {T : TypeId → Ty} {O : Nat → Prop} {R R' : V → Value → Prop}
theorem run_findAsking {kt : TypeId} {x : Value} {f : Value → Bool} : ∀ (es : List MapEntry) (i : Nat), (∀ e ∈ es, (Op.equal kt x e.key).run P w = .ok (f e.key) w) → (Instr.findAsking kt x es i).run P w = .ok (findRes f es i) w
  | [], i, _ => rfl
  | e :: es, i, h => by
    unfold Instr.findAsking findRes
    simp only [Sem.run_bind, h e (by simp), Result.andThen_ok]
    cases f e.key
    · simpa using run_findAsking es (i + 1) (fun e' h' => h e' (by simp [h']))
    · rfl

/-- The forms of a key: a basic value, or a struct of such. -/
theorem key_cases {kt : TypeId} {ty : Ty} (row : Row P kt ty) (hk : plainKey ty = true) (hok : ty.ok = true) :
    (∃ k, basicB P kt = some k ∧ ty.kinds = [k] ∧ ty.agg = false) ∨ (∃ fs, P.underlying kt = some (.struct fs) ∧ ty.agg = true ∧ basics P 0 fs.toList = some ty.kinds ∧ P.stoodInHeld kt = false) := by
  unfold plainKey at hk
  rw [Bool.and_eq_true] at hk
  cases ha : ty.agg with
  | true =>
    simp only [ha] at hk
    right
    cases hd : ty.d with
    | struct gs =>
      obtain ⟨fs, hu, _, _, _, hq⟩ := row.struct hd
      obtain ⟨h1, h2, _⟩ := hq hk.2
      exact ⟨fs, hu, rfl, h1, h2⟩
    | array n e =>
      have := row.desc
      unfold descB at this
      split at this <;> rename_i hu hq <;> rw [hd] at hq <;> simp at hq
      · simp [hk.2] at this
      · cases this
    | slice e => rw [(row.slice hd).2] at ha; cases ha
    | str => rw [(row.str hd).2.1] at ha; cases ha
    | int k => rw [(row.int hd).2.1] at ha; cases ha
    | bool => rw [(row.bool hd).2.1] at ha; cases ha
    | other => unfold Ty.ok at hok; rw [hd] at hok; cases hok
    | _ =>
      have := row.desc
      unfold descB at this
      split at this <;> rename_i hu hq <;> rw [hd] at hq <;> simp at hq <;> simp [ha] at this
  | false =>
    left
    obtain ⟨_, k, hkk⟩ := row.one ha
    simp only [ha] at hk
    have hk2 := hk.2
    cases hd : ty.d with
    | str => obtain ⟨h1, _, h3⟩ := row.str hd; rw [hkk] at h3; exact ⟨k, by simp [basicB, h1]; simpa using h3.symm, hkk, rfl⟩
    | int k' => obtain ⟨h1, _, h3⟩ := row.int hd; rw [hkk] at h3; exact ⟨k, by simp [basicB, h1]; simpa using h3.symm, hkk, rfl⟩
    | bool => obtain ⟨h1, _, h3⟩ := row.bool hd; rw [hkk] at h3; exact ⟨k, by simp [basicB, h1]; simpa using h3.symm, hkk, rfl⟩
    | _ => rw [hd] at hk2; cases hk2

theorem eta_plain {k : Kd} {v : V} (hp : k.plain = true) (hf : isForm k v = true) : eta k v = v := by
  cases k <;> simp [Kd.plain] at hp <;> cases v <;> simp [isForm] at hf <;> first | rfl | (subst hf; rfl)
theorem etaL_plain : ∀ {ks : List Kd} {cs : List V}, ks.all Kd.plain = true → isFormL ks cs = true → etaL ks 0 (.agg cs) = cs := by
  intro ks cs hp hf
  have hlen : cs.length = ks.length := by
    have : ∀ (ks : List Kd) (l : List V), isFormL ks l = true → l.length = ks.length := by
      intro ks
      induction ks with
      | nil => intro l h; cases l <;> simp [isFormL] at h ⊢
      | cons k ks ih => intro l h; cases l <;> simp [isFormL] at h ⊢; exact ih _ h.2
    exact this ks cs hf
  refine etaL_self hlen (fun i => by simp [V.cell, V.cells]) (fun i k c h1 h2 => ?_)
  have hpk : k.plain = true := by
    rw [List.all_eq_true] at hp
    exact hp k (List.mem_of_getElem? h1)
  have hfc : ∀ (ks : List Kd) (cs : List V) (i : Nat) (k : Kd) (c : V), isFormL ks cs = true → ks[i]? = some k → cs[i]? = some c → isForm k c = true := by
    intro ks
    induction ks with
    | nil => intro cs i k c _ h; simp at h
    | cons a ks ih =>
      intro cs i k c hf h1 h2
      cases cs with
      | nil => simp at h2
      | cons b cs =>
        rw [isFormL, Bool.and_eq_true] at hf
        cases i with
        | zero => simp at h1 h2; subst h1 h2; exact hf.1
        | succ i => exact ih cs i k c hf.2 (by simpa using h1) (by simpa using h2)
  exact eta_plain hpk (hfc ks cs i k c hf h1 h2)
theorem eqV_some {k : Kd} {a b : V} (hp : k.plain = true) (fa : isForm k a = true) (fb : isForm k b = true) : ∃ r, eqV a b = some r := by
  cases k <;> simp [Kd.plain] at hp <;> cases a <;> simp [isForm] at fa <;> cases b <;> simp [isForm] at fb
  · exact ⟨_, rfl⟩
  · subst fa fb; rename_i n m; exact ⟨n == m, by simp [eqV]⟩
  · exact ⟨_, rfl⟩
theorem eqCells_some : ∀ {ks : List Kd} {a b : List V}, ks.all Kd.plain = true → isFormL ks a = true → isFormL ks b = true → ∃ r, eqCells a b = some r
  | [], [], [], _, _, _ => ⟨_, rfl⟩
  | [], _ :: _, _, _, h, _ => by simp [isFormL] at h
  | [], [], _ :: _, _, _, h => by simp [isFormL] at h
  | _ :: _, [], _, _, h, _ => by simp [isFormL] at h
  | _ :: _, _ :: _, [], _, _, h => by simp [isFormL] at h
  | k :: ks, x :: a, y :: b, hp, fa, fb => by
    rw [isFormL, Bool.and_eq_true] at fa fb
    rw [List.all_cons, Bool.and_eq_true] at hp
    obtain ⟨r1, h1⟩ := eqV_some hp.1 fa.1 fb.1
    obtain ⟨r2, h2⟩ := eqCells_some hp.2 fa.2 fb.2
    exact ⟨r1 && r2, by simp [eqCells, h1, h2]⟩
/-- What is asked of two keys. -/
theorem run_keySame {kt : TypeId} {ty : Ty} (row : Row P kt ty) (hk : plainKey ty = true) (hok : ty.ok = true) {a b : V} {x y : Value} (fa : isFormT ty a = true) (fb : isFormT ty b = true) (ha : Rep T w O a R x) (hb : Rep T w O b R' y) :
    (Op.equal kt x y).run P w = .ok (keySame ty a b) w := by
  have hpl : ty.kinds.all Kd.plain = true := by unfold plainKey at hk; rw [Bool.and_eq_true] at hk; exact hk.1
  rcases key_cases row hk hok with ⟨k, h1, h2, h3⟩ | ⟨fs, h1, h2, h3, h4⟩
  · simp only [isFormT, h2, h3] at fa fb
    rw [h2] at hpl
    have hp : k.plain = true := by simpa using hpl
    obtain ⟨r, hr⟩ := eqV_some hp fa fb
    have : keySame ty a b = r := by simp [keySame, h2, h3, eta_plain hp fa, eta_plain hp fb, hr]
    rw [this]
    exact run_eqV_basic (P := P) (d := 9999) h1 fa fb ha hb hr
  · cases a <;> simp [isFormT, h2] at fa
    cases b <;> simp [isFormT, h2] at fb
    rename_i ca cb
    obtain ⟨p, rfl, h5⟩ := ha
    obtain ⟨q, rfl, h6⟩ := hb
    obtain ⟨r, hr⟩ := eqCells_some hpl fa fb
    have : keySame ty (.agg ca) (.agg cb) = r := by simp [keySame, h2, etaL_plain hpl fa, etaL_plain hpl fb, hr]
    rw [this]
    have hfo : P.fieldsOf kt = fs := by simp [Program.fieldsOf, h1]
    rw [Op.equal, Op.maxDepth, run_equalIn_struct w 9999 kt p q (by rw [hfo]; exact h1) h4, hfo]
    exact run_eqFields (d := 9998) fs.toList 0 ty.kinds ca cb p.toList q.toList r h3 fa fb h5 h6 rfl rfl hr

theorem run_checkKey_basic {kt : TypeId} {k : Kd} {x : Value} (h : basicB P kt = some k) (e : Bool) (n : Nat) : (Instr.checkKey e (n + 1) kt x).run P w = .ok () w := by
  unfold basicB at h
  split at h <;> simp at h
  all_goals (rename_i hu; simp [Instr.checkKey, run_underlying hu])
theorem run_checkKey_fields {e : Bool} {n : Nat} {cs : Array Value} : ∀ (fs : List Field) (off : Nat) (ks : List Kd), basics P off fs = some ks → off + ks.length ≤ cs.size →
    (forIn fs PUnit.unit (fun f (_ : PUnit) => (if f.name ≠ "_" then do
        Instr.checkKey e (n + 1) f.type (← part f.type cs f.offset)
        pure (ForInStep.yield PUnit.unit) else pure (ForInStep.yield PUnit.unit) : Sem (ForInStep PUnit)))).run P w = .ok PUnit.unit w
  | [], _, _, _, _ => rfl
  | f :: fs, off, ks, hb, hl => by
    unfold basics at hb
    split at hb
    · rename_i k hk
      split at hb
      · rename_i hn
        cases hq : basics P (off + 1) fs with
        | none => rw [hq] at hb; cases hb
        | some ks' =>
          rw [hq] at hb
          simp at hb
          subst hb
          simp at hl
          have ih := run_checkKey_fields (e := e) (n := n) (cs := cs) fs (off + 1) ks' hq (by omega)
          have hagg : (isAgg f.type).run P w = .ok false w := by
            unfold basicB at hk
            split at hk <;> simp at hk
            all_goals (rename_i hu; simp [isAgg, run_underlying hu])
          have hxo : cs[off]? = some cs[off] := Array.getElem?_eq_getElem (by omega)
          have hp1 : (part f.type cs f.offset).run P w = .ok cs[off] w := by rw [hn.2]; simp [part, hagg, hxo]
          simp only [List.forIn_cons, Sem.run_bind]
          rw [if_pos hn.1]
          simp only [Sem.run_bind, hp1, Result.andThen_ok, run_checkKey_basic hk, Sem.run_pure]
          exact ih
      · cases hb
    · cases hb
theorem run_checkKey {kt : TypeId} {ty : Ty} (row : Row P kt ty) (hk : plainKey ty = true) (hok : ty.ok = true) {a : V} {x : Value} (fa : isFormT ty a = true) (ha : Rep T w O a R x) (e : Bool) :
    (Instr.checkKey e 10000 kt x).run P w = .ok () w := by
  rcases key_cases row hk hok with ⟨k, h1, h2, h3⟩ | ⟨fs, h1, h2, h3, h4⟩
  · exact run_checkKey_basic h1 e 9999
  · cases a <;> simp [isFormT, h2] at fa
    rename_i ca
    obtain ⟨p, rfl, h5⟩ := ha
    have hl := h5.length
    have hlen : ca.length = ty.kinds.length := by
      have : ∀ (ks : List Kd) (l : List V), isFormL ks l = true → l.length = ks.length := by
        intro ks
        induction ks with
        | nil => intro l h; cases l <;> simp [isFormL] at h ⊢
        | cons k ks ih => intro l h; cases l <;> simp [isFormL] at h ⊢; exact ih _ h.2
      exact this _ _ fa
    have := run_checkKey_fields (w := w) (e := e) (n := 9998) (cs := p) fs.toList 0 ty.kinds h3 (by simp at hl; omega)
    show (Instr.checkKey e (9999 + 1) kt (.agg p)).run P w = _
    unfold Instr.checkKey
    simp only [Sem.run_bind, run_underlying h1, Result.andThen_ok]
    rw [← Array.forIn_toList, this]
    rfl

theorem beq_bytes (a b : ByteArray) : (a == b) = (a.data.toList == b.data.toList) := by rw [beq_toListBytes, toList_data, toList_data]
/-- 'findKey' finds the first entry whose key is the same. -/
theorem run_findKey {kt : TypeId} {ty : Ty} (row : Row P kt ty) (hk : plainKey ty = true) (hok : ty.ok = true) {k : V} {x : Value} (fk : isFormT ty k = true) (hx : Rep T w O k R x)
    {es : List MapEntry} {ks : List V} (hks : RepL T w O ks R' (es.map (·.key))) (hf : ∀ k ∈ ks, isFormT ty k = true) :
    ∃ f : Value → Bool, (∀ (n : Nat) (k' : V) (e : MapEntry), ks[n]? = some k' → es[n]? = some e → f e.key = keySame ty k k') ∧ (Instr.findKey kt x es).run P w = .ok (findRes f es 0) w := by
  classical
  let f : Value → Bool := fun y => if h : ∃ b, (Op.equal kt x y).run P w = .ok b w then h.choose else false
  have hpos : ∀ (n : Nat) (e : MapEntry), es[n]? = some e → ∃ k', ks[n]? = some k' ∧ Rep T w O k' R' e.key := by
    intro n e he
    have hlen := hks.length
    simp at hlen
    obtain ⟨hn, _⟩ := List.getElem?_eq_some_iff.1 he
    have hk' : ks[n]? = some (ks[n]'(by omega)) := List.getElem?_eq_getElem (by omega)
    obtain ⟨y, h1, h2⟩ := RepL.get n _ hks hk'
    rw [List.getElem?_map, he] at h1
    simp at h1
    subst h1
    exact ⟨_, hk', h2⟩
  have hfe : ∀ (n : Nat) (k' : V) (e : MapEntry), ks[n]? = some k' → es[n]? = some e → (Op.equal kt x e.key).run P w = .ok (keySame ty k k') w ∧ f e.key = keySame ty k k' := by
    intro n k' e h1 h2
    obtain ⟨k2, h3, h4⟩ := hpos n e h2
    rw [h1] at h3
    simp at h3
    subst h3
    have hr := run_keySame row hk hok fk (hf _ (List.mem_of_getElem? h1)) hx h4
    refine ⟨hr, ?_⟩
    have hex : ∃ b, (Op.equal kt x e.key).run P w = .ok b w := ⟨_, hr⟩
    have hc := hex.choose_spec
    show (if h : _ then _ else _) = _
    rw [dif_pos hex]
    have h9 := hr.symm.trans hc
    simp only [Result.ok.injEq, and_true] at h9
    exact h9.symm
  refine ⟨f, fun n k' e h1 h2 => (hfe n k' e h1 h2).2, ?_⟩
  have hall : ∀ e ∈ es, (Op.equal kt x e.key).run P w = .ok (f e.key) w := by
    intro e he
    obtain ⟨n, hn⟩ := List.getElem?_of_mem he
    obtain ⟨k', h1, _⟩ := hpos n e hn
    obtain ⟨h2, h3⟩ := hfe n k' e h1 hn
    rw [h3]; exact h2
  unfold Instr.findKey
  rcases key_cases row hk hok with ⟨kd, h1, h2, h3⟩ | ⟨fs, h1, h2, h3, h4⟩
  · obtain ⟨d, hu⟩ : ∃ d, P.underlying kt = some d := by
      unfold basicB at h1
      split at h1 <;> first | exact ⟨_, ‹_›⟩ | cases h1
    have hnow : ∀ e ∈ es, Instr.sameNow d x e.key = some (f e.key) := by
      intro e he
      obtain ⟨n, hn⟩ := List.getElem?_of_mem he
      obtain ⟨k', h5, h6⟩ := hpos n e hn
      obtain ⟨_, h7⟩ := hfe n k' e h5 hn
      rw [h7]
      have fk' := hf _ (List.mem_of_getElem? h5)
      simp only [isFormT, h2, h3] at fk fk'
      unfold basicB at h1
      rw [hu] at h1
      split at h1 <;> simp at h1
      all_goals subst h1
      all_goals rename_i hd
      all_goals simp only [Option.some.injEq] at hd
      all_goals subst hd
      · cases k <;> simp [isForm] at fk
        cases k' <;> simp [isForm] at fk'
        rw [show x = _ from hx, show e.key = _ from h6]
        simp [Instr.sameNow, keySame, h2, h3, eta, V.toB, eqV]
      · cases k <;> simp [isForm] at fk
        cases k' <;> simp [isForm] at fk'
        subst fk fk'
        rw [show x = _ from hx, show e.key = _ from h6]
        simp [Instr.sameNow, keySame, h2, h3, eta, V.toI, eqV]
      · cases k <;> simp [isForm] at fk
        cases k' <;> simp [isForm] at fk'
        obtain ⟨b1, rfl, h8⟩ := hx
        obtain ⟨b2, h9, h10⟩ := h6
        rw [h9]
        simp [Instr.sameNow, keySame, h2, h3, eta, V.toS, eqV, beq_bytes, h8, h10]
    simp [run_underlying hu, findNow_eq es 0 hnow]
  · cases es with
    | nil => simp [run_underlying h1, Instr.findNow, findRes]
    | cons e es =>
      have : Instr.findNow (.struct fs) x (e :: es) 0 = none := by
        have hx2 : ∃ p, x = .agg p := by
          cases k <;> simp [isFormT, h2] at fk
          obtain ⟨p, rfl, _⟩ := hx
          exact ⟨p, rfl⟩
        obtain ⟨p, rfl⟩ := hx2
        rfl
      simp only [Sem.run_bind, run_underlying h1, Result.andThen_ok, this]
      exact run_findAsking _ 0 hall

/-- The entry that is found, seen from the tree. -/
theorem find_dict {ty : Ty} {k : V} {f : Value → Bool} : ∀ (es : List MapEntry) (ks vs : List V) (i : Nat),
    RepL T w O ks R' (es.map (·.key)) → RepL T w O vs R' (es.map (·.val)) →
    (∀ (n : Nat) (k' : V) (e : MapEntry), ks[n]? = some k' → es[n]? = some e → f e.key = keySame ty k k') →
    (dictFind ty k ks vs = none ∧ findRes f es i = none ∧ ∀ v, dictPut ty k v ks vs = (ks ++ [k], vs ++ [v])) ∨
    (∃ (n : Nat) (e : MapEntry) (k' v' : V), dictFind ty k ks vs = some v' ∧ findRes f es i = some (i + n, e.val) ∧ es[n]? = some e ∧ ks[n]? = some k' ∧ vs[n]? = some v' ∧ keySame ty k k' = true ∧ Rep T w O v' R' e.val ∧ Rep T w O k' R' e.key ∧ ∀ v, dictPut ty k v ks vs = (ks.set n k, vs.set n v))
  | [], ks, vs, i, hk, hv, _ => by
    cases ks with
    | cons => have := hk.length; simp at this
    | nil => cases vs with
      | cons => have := hv.length; simp at this
      | nil => exact .inl ⟨rfl, rfl, fun _ => rfl⟩
  | e :: es, ks, vs, i, hk, hv, hf => by
    cases ks with
    | nil => have := hk.length; simp at this
    | cons k' ks =>
      cases vs with
      | nil => have := hv.length; simp at this
      | cons v' vs =>
        obtain ⟨x, r, hx, h1, h2⟩ := hk
        simp only [List.map_cons, List.cons.injEq] at hx
        obtain ⟨rfl, rfl⟩ := hx
        obtain ⟨y, r, hy, h3, h4⟩ := hv
        simp only [List.map_cons, List.cons.injEq] at hy
        obtain ⟨rfl, rfl⟩ := hy
        have h0 := hf 0 k' e rfl rfl
        cases hs : keySame ty k k' with
        | true =>
          rw [hs] at h0
          exact .inr ⟨0, e, k', v', by simp [dictFind, hs], by simp [findRes, h0], rfl, rfl, rfl, hs, h3, h1, fun v => by simp [dictPut, hs]⟩
        | false =>
          rw [hs] at h0
          rcases find_dict es ks vs (i + 1) h2 h4 (fun n k2 e2 h5 h6 => hf (n + 1) k2 e2 (by simpa using h5) (by simpa using h6)) with ⟨h5, h6, h7⟩ | ⟨n, e2, k2, v2, h5, h6, h7, h8, h9, h10, h11, h12, h13⟩
          · exact .inl ⟨by simp [dictFind, hs, h5], by simp [findRes, h0, h6], fun v => by simp [dictPut, hs, h7]⟩
          · exact .inr ⟨n + 1, e2, k2, v2, by simp [dictFind, hs, h5], by simp [findRes, h0, h6]; omega, by simpa using h7, by simpa using h8, by simpa using h9, h10, h11, h12, fun v => by simp [dictPut, hs, h13]⟩
end
section
variable {E : Env} {P : Program} {Z : Nat → Prop} {h view : Nat → Ob} {β : Nat → Loc} {w : World} {s : Nat → V} {a : Act} {fr : Nat} {o : Oper} {r : Rs}

def okX (ok : Bool) (x : Value) (b : Bool) : Value := match ok with | true => .tuple #[x, .bool b] | false => x
def lookRes (ok : Bool) (res : Option (Nat × Value)) (z : Value) : Value := match res with | some y => okX ok y.2 true | none => okX ok z false
theorem Rep.withOk {T : TypeId → Ty} {O : Nat → Prop} {R : V → Value → Prop} {v : V} {x : Value} (ok b : Bool) (hr : Rep T w O v R x) : Rep T w O (withOk ok v b) R (okX ok x b) := by
  cases ok
  · exact hr
  · exact ⟨_, rfl, ⟨_, _, rfl, hr, ⟨_, _, rfl, rfl, rfl⟩⟩⟩
theorem run_lookup_map {t kt et : TypeId} {x : Value} {ok : Bool} {es : Array MapEntry} {clk m : Nat} {res : Option (Nat × Value)} {z : Value} (hu : P.underlying t = some (.map kt et)) (hm : w.heap[m]? = some (.map es clk))
    (h1 : (Instr.checkKey es.isEmpty 10000 kt x).run P w = .ok () w) (h2 : (Instr.findKey kt x es.toList).run P w = .ok res w) (hz : (zeroValue et).run P w = .ok z w) :
    (Instr.lookup t (.map (some m)) x ok).run P w = .ok (lookRes ok res z) w := by
  have hg : (getObj m).run P w = .ok (.map es clk) w := by simp [getObj, Sem.run, hm]
  cases res with
  | none => cases ok <;> simp [Instr.lookup, run_underlying hu, hg, h1, h2, hz, lookRes, okX]
  | some y => cases ok <;> simp [Instr.lookup, run_underlying hu, hg, h1, h2, lookRes, okX]
theorem op_lookup (c : Ctx E P Z h view β w s a) {t : TypeId} {x y : Operand} {ok : Bool} (ho : o.op = .lookup t x y ok) (he : (evOp E view s fr o).eval = some r) : Gives E P Z h β w a o r := by
  simp only [evOp, ho] at he
  have hx := c.val x
  have hy := c.val y
  split at he
  · rename_i kt et hd
    have hu := (c.ty.row (ok_of hd (by simp))).map hd
    split at he
    · simp [Tr.eval] at he
    · rename_i hc
      simp only [Bool.and_eq_true] at hc
      obtain ⟨⟨⟨hk1, hk2⟩, hk3⟩, hk4⟩ := hc
      have rowk := c.ty.row hk1
      have rowe := c.ty.row hk2
      obtain ⟨z, hz1, hz2, _, _⟩ := rowe.rep_zero (T := E.ty) (w := w) (O := Own Z h β) w (RefRep E.ty h β)
      have zero : ∀ (u : Value), (Instr.lookup t (a.eval x) (a.eval y) ok).run P w = .ok (okX ok z false) w →
          r = .ok (withOk ok (zeroT (E.ty et)) false) [] → Gives E P Z h β w a o r := by
        intro u hr hr2
        refine ⟨_, (okX ok z false), hr2, by simp only [execOp, ho, Sem.run_bind, hr, Result.andThen_ok]; rfl, ?_⟩
        cases ok
        · exact hz2
        · exact ⟨_, rfl, ⟨z, _, rfl, hz2, ⟨_, _, rfl, rfl, rfl⟩⟩⟩
      have go : ∀ (ks vs : List V) (m : Nat) (es : Array MapEntry) (clk : Nat), DictOk E.ty t ks vs → a.eval x = .map (some m) → w.heap[m]? = some (.map es clk) →
          RepL E.ty w (Own Z h β) ks noR (es.toList.map (·.key)) → RepL E.ty w (Own Z h β) vs noR (es.toList.map (·.val)) →
          (Tr.ite (dictFind (E.ty kt) (ev E s y) ks vs).isSome
            (.ret (.ok (withOk ok (etaT (E.ty et) ((dictFind (E.ty kt) (ev E s y) ks vs).getD .top)) true) []))
            (.ret (.ok (withOk ok (zeroT (E.ty et)) false) [])) : Tr Rs).eval = some r → Gives E P Z h β w a o r := by
        intro ks vs m es clk hdk hxm hm hrk hrv hev
        obtain ⟨hd1, hd2⟩ := hdk kt et hd
        obtain ⟨f, hf1, hf2⟩ := run_findKey (P := P) (es := es.toList) rowk hk4 hk1 hk3 hy hrk hd1
        have hck := run_checkKey (P := P) rowk hk4 hk1 hk3 hy es.isEmpty
        have hrun := fun ok => run_lookup_map (ok := ok) hu hm hck hf2 hz1
        rcases find_dict es.toList ks vs 0 hrk hrv hf1 with ⟨h5, h6, _⟩ | ⟨n, e, k', v', h5, h6, _, _, h9, _, h11, _⟩
        · rw [h5] at hev
          simp only [Option.isSome_none, Tr.eval, Option.some.injEq] at hev
          refine zero z ?_ hev.symm
          rw [hxm, hrun, h6]
          cases ok <;> rfl
        · rw [h5] at hev
          simp only [Option.isSome_some, Tr.eval, Option.some.injEq, Option.getD_some] at hev
          have hform := hd2 v' (List.mem_of_getElem? h9)
          rw [hform.2] at hev
          have hrep := Rep.refs _ _ (RefRep E.ty h β) _ (fun _ _ _ h => h.elim) h11
          refine ⟨_, (okX ok e.val true), hev.symm, ?_, ?_⟩
          · simp only [execOp, ho, hxm, Sem.run_bind, hrun, h6, Result.andThen_ok]
            cases ok <;> rfl
          · cases ok
            · exact hrep
            · exact ⟨_, rfl, ⟨_, _, rfl, hrep, ⟨_, _, rfl, rfl, rfl⟩⟩⟩
      split at he
      · rename_i i hv
        split at he
        · rename_i ro t' ks vs hq
          split at he
          · rename_i hte
            have := nat_of_beq hte
            subst this
            have hi := c.sees.at_ hq (by simp)
            rw [hv] at hx
            obtain ⟨_, hx⟩ := hx
            have hob := c.cx.ob i
            rw [hi] at hob
            obtain ⟨_, hdk, es, clk, hm, hrk, hrv⟩ := hob
            exact go ks vs _ es clk hdk hx hm hrk hrv he
          · simp [Tr.eval] at he
        · simp [Tr.eval] at he
      · rename_i t' ks vs hv
        split at he
        · rename_i hte
          have := nat_of_beq hte
          subst this
          rw [hv] at hx
          obtain ⟨m, es, clk, hx, _, _, hm, hdk, hrk, hrv⟩ := hx
          exact go ks vs m es clk hdk hx hm hrk hrv he
        · simp [Tr.eval] at he
      · rename_i hv
        simp only [Tr.eval, Option.some.injEq] at he
        rw [hv] at hx
        refine zero z ?_ he.symm
        rw [show a.eval x = _ from hx]
        have hck := run_checkKey (P := P) rowk hk4 hk1 hk3 hy true
        obtain ⟨f, hf1, hf2⟩ := run_findKey (P := P) (es := []) (ks := []) (R' := noR) rowk hk4 hk1 hk3 hy rfl (by simp)
        have hf3 : (Instr.findKey kt (a.eval y) []).run P w = .ok none w := hf2
        cases ok <;> simp [Instr.lookup, run_underlying hu, hck, hf3, hz1, okX]
      · simp [Tr.eval] at he
  · simp [Tr.eval] at he
end
end Go.AH

namespace Go.AH
open Go Go.RowKit

section
variable {E : Env} {P : Program} {Z : Nat → Prop} {h view : Nat → Ob} {β : Nat → Loc} {w : World} {s : Nat → V} {a : Act} {fr : Nat} {o : Oper} {r : Rs}

theorem op_nilCheck (c : Ctx E P Z h view β w s a) {x : Operand} (ho : o.op = .nilCheck x) (he : (evOp E view s fr o).eval = some r) : Gives E P Z h β w a o r := by
  simp only [evOp, ho] at he
  have hx := c.val x
  split at he
  all_goals first | (simp [Tr.eval] at he; done) | skip
  all_goals
    rename_i hv
    rw [hv] at hx
    simp only [Tr.eval, Option.some.injEq] at he
  · have hx0 := hx
    obtain ⟨b, o', l, hz, _⟩ := hx
    exact ⟨_, a.eval x, he.symm, by simp [execOp, ho, hz], hx0⟩
  · have hx0 := hx
    obtain ⟨_, hz⟩ := hx
    exact ⟨_, a.eval x, he.symm, by simp [execOp, ho, hz], hx0⟩
  · have hx0 := hx
    obtain ⟨_, _, _, _, _, _, ⟨b, o', hz⟩, _⟩ := hx
    exact ⟨_, a.eval x, he.symm, by simp [execOp, ho, hz], hx0⟩
theorem Row.conc {ty : Ty} {t : TypeId} (h : Row P t ty) (hi : ty.d ≠ .iface) : ∃ d, P.underlying t = some d ∧ ∀ ms, d ≠ .interface ms := by
  have h0 := h.under
  cases hu : P.underlying t with
  | none => rw [hu] at h0; cases h0
  | some d =>
    refine ⟨d, rfl, fun ms hd => ?_⟩
    have h1 := h.desc
    unfold descB at h1
    rw [hu, hd] at h1
    split at h1 <;> simp_all
theorem op_makeIface (c : Ctx E P Z h view β w s a) {t : TypeId} {x : Operand} (ho : o.op = .makeInterface t x) (he : (evOp E view s fr o).eval = some r) : Gives E P Z h β w a o r := by
  simp only [evOp, ho] at he
  have hx := c.val x
  split at he
  · rename_i hc
    simp only [Bool.and_eq_true, Bool.not_eq_true', decide_eq_false_iff_not] at hc
    simp only [Tr.eval, Option.some.injEq] at he
    obtain ⟨d, hu, hd⟩ := (c.ty.row hc.1).conc hc.2
    refine ⟨_, .iface t (a.eval x), he.symm, ?_, ⟨_, rfl, hx⟩⟩
    cases d <;> first | (exact absurd rfl (hd _)) | simp [execOp, ho, Instr.makeInterface, run_underlying hu]
  · simp [Tr.eval] at he
theorem op_typeAssert (c : Ctx E P Z h view β w s a) {t xt : TypeId} {x : Operand} {ok : Bool} (ho : o.op = .typeAssert x xt t ok) (he : (evOp E view s fr o).eval = some r) : Gives E P Z h β w a o r := by
  simp only [evOp, ho] at he
  have hx := c.val x
  split at he
  · simp [Tr.eval] at he
  · rename_i hc
    simp only [Bool.and_eq_true, Bool.not_eq_true', decide_eq_false_iff_not] at hc
    have row := c.ty.row hc.1
    obtain ⟨d, hu, hd⟩ := row.conc hc.2
    obtain ⟨z, hz1, hz2, _, _⟩ := row.rep_zero (T := E.ty) (w := w) (O := Own Z h β) w (RefRep E.ty h β)
    split at he
    · rename_i hv
      rw [hv] at hx
      have hx : a.eval x = .nilIface := hx
      split at he
      · simp only [Tr.eval, Option.some.injEq] at he
        refine ⟨_, .tuple #[z, .bool false], he.symm, ?_, ⟨_, rfl, ⟨z, _, rfl, hz2, ⟨_, _, rfl, rfl, rfl⟩⟩⟩⟩
        cases d <;> first | (exact absurd rfl (hd _)) | simp [execOp, ho, Instr.typeAssert, run_underlying hu, hx, hz1]
      · simp [Tr.eval] at he
    · rename_i u v hv
      rw [hv] at hx
      obtain ⟨y, hx, hy⟩ := hx
      split at he
      · rename_i hb
        obtain rfl := Nat.eq_of_beq_eq_true hb
        simp only [Tr.eval, Option.some.injEq] at he
        refine ⟨_, (match ok with | true => .tuple #[y, .bool true] | false => y), he.symm, ?_, ?_⟩
        · cases ok <;> cases d <;> first | (exact absurd rfl (hd _)) | simp [execOp, ho, Instr.typeAssert, run_underlying hu, hx]
        · cases ok
          · exact hy
          · exact ⟨_, rfl, ⟨y, _, rfl, hy, ⟨_, _, rfl, rfl, rfl⟩⟩⟩
      · rename_i hb
        split at he
        · simp only [Tr.eval, Option.some.injEq] at he
          have hne : u ≠ t := fun h => by subst h; rw [Nat.beq_refl] at hb; cases hb
          refine ⟨_, .tuple #[z, .bool false], he.symm, ?_, ⟨_, rfl, ⟨z, _, rfl, hz2, ⟨_, _, rfl, rfl, rfl⟩⟩⟩⟩
          cases d <;> first | (exact absurd rfl (hd _)) | simp [execOp, ho, Instr.typeAssert, run_underlying hu, hx, hz1, hne]
        · simp [Tr.eval] at he
    · simp [Tr.eval] at he
end
end Go.AH

namespace Go.AH
open Go Go.RowKit

section
variable {E : Env} {P : Program} {Z : Nat → Prop} {h view : Nat → Ob} {β : Nat → Loc} {w : World} {s : Nat → V} {a : Act} {fr : Nat} {o : Oper} {r : Rs}

/-- Only what was alive, or is one of the operation's own numbers, has changed. -/
def Touch (h h' : Nat → Ob) (fr : Nat) : Prop := ∀ i, h' i ≠ h i → (h i).alive = true ∨ (fr ≤ i ∧ i < fr + 64)
/-- What an operation does to the world: its value, and the heap behind it. -/
structure Done (E : Env) (Z : Nat → Prop) (h : Nat → Ob) (β : Nat → Loc) (w : World) (fr : Nat) (v : V) (u : Upd) (x : Value) (β' : Nat → Loc) (w' : World) : Prop where
  cx : Cx E.ty E.glob Z (updL h u) β' w'
  st : Stp h β w (updL h u) β' w'
  rep : Rep E.ty w' (Own Z (updL h u) β') v (RefRep E.ty (updL h u) β') x
  touch : Touch h (updL h u) fr
/-- The operation gives a value (or none), and writes. -/
def Does (E : Env) (P : Program) (Z : Nat → Prop) (h : Nat → Ob) (β : Nat → Loc) (w : World) (a : Act) (fr : Nat) (o : Oper) (r : Rs) : Prop :=
  ∃ v u x w' β', r = .ok v u ∧ ((execOp a.eval o).run P w = .ok (.value x) w' ∨ (execOp a.eval o).run P w = .ok .skip w' ∧ x = undef) ∧ Done E Z h β w fr v u x β' w'
theorem Gives.does (c : Ctx E P Z h view β w s a) (g : Gives E P Z h β w a o r) : Does E P Z h β w a fr o r := by
  obtain ⟨v, x, h1, h2, h3⟩ := g
  exact ⟨v, [], x, w, β, h1, .inl h2, c.cx, Stp.refl, h3, fun i hi => absurd rfl hi⟩
theorem touch_upd {i : Nat} {ob : Ob} (hi : (h i).alive = true ∨ (fr ≤ i ∧ i < fr + 64)) : Touch h (updL h [(i, ob)]) fr := by
  intro j hj
  by_cases hji : j = i
  · subst hji; exact hi
  · exact absurd (upd_other h ob hji) hj

theorem heap_alloc_new' (w : World) (ob : Obj) : (w.alloc ob).heap[w.heap.size]? = some ob := by
  show (w.heap.push ob)[w.heap.size]? = some ob
  rw [Array.getElem?_push, if_pos rfl]
theorem heap_alloc_old' (w : World) (ob : Obj) {k : Nat} (hk : k < w.heap.size) : (w.alloc ob).heap[k]? = w.heap[k]? := Below.heap_alloc w ob k hk
/-- A new block. -/
theorem cx_alloc {T : TypeId → Ty} {G : Nat → V} (cx : Cx T G Z h β w) (hfr : h fr = .dead) (ob : Obj) (ob' : Ob) (cap : Nat) (hrw : ob'.rw = true)
    (hob : ∀ (O' : Nat → Prop) (R' : V → Value → Prop), Kept w (w.alloc ob) (Own Z h β) O' → (∀ r y, RefRep T h β r y → R' r y) → ObRep T (w.alloc ob) O' R' ⟨w.heap.size, cap, false, 0⟩ ob') :
    Cx T G Z (upd h fr ob') (upd β fr ⟨w.heap.size, cap, false, 0⟩) (w.alloc ob) ∧ Stp h β w (upd h fr ob') (upd β fr ⟨w.heap.size, cap, false, 0⟩) (w.alloc ob) :=
  cx.update fr ob' _ rfl rfl rfl (by simp) (fun b hb _ => heap_alloc_old' w ob hb) hrw (fun _ => .inr ⟨Nat.le_refl _, by simp⟩) (by rw [hfr]; exact trivial) (fun hk hR => hob _ _ hk hR)

theorem op_alloc (c : Ctx E P Z h view β w s a) (hfr : h fr = .dead) {t : TypeId} (ho : o.op = .alloc t) (he : (evOp E view s fr o).eval = some r) : Does E P Z h β w a fr o r := by
  simp only [evOp, ho] at he
  cases ht : (E.ty t).ok with
  | false => simp [ht, Tr.eval] at he
  | true =>
    simp only [ht, Tr.eval, Option.some.injEq] at he
    have row := c.ty.row ht
    obtain ⟨z, hz, _, _, _⟩ := row.rep_zeroB (T := E.ty) (w := w) (O := Own Z h β) w (RefRep E.ty h β)
    have key : ∀ w' (O' : Nat → Prop) R', RepL E.ty w' O' (zeroB (E.ty t)).cells R' z.cells.toList := by
      intro w' O' R'
      obtain ⟨z', hz', _, h2, _⟩ := row.rep_zeroB (T := E.ty) (w := w') (O := O') w R'
      rw [hz] at hz'
      simp only [Result.ok.injEq, and_true] at hz'
      subst hz'
      exact h2
    obtain ⟨c1, c2⟩ := cx_alloc c.cx hfr (.cells z.cells t) (.box false (zeroB (E.ty t)).cells) 0 rfl (fun O' R' _ _ => ⟨rfl, z.cells, t, heap_alloc_new' w _, (key _ O' R').takeAll⟩)
    refine ⟨_, _, .pointer (some ⟨w.heap.size, 0, none⟩), w.alloc (.cells z.cells t), _, he.symm, .inl ?_, c1, c2, ⟨⟨false, _, by rw [updL, updL, upd_same]⟩, by rw [upd_same]⟩, touch_upd (.inr ⟨Nat.le_refl _, by omega⟩)⟩
    simp [execOp, ho, Instr.alloc, hz, newVar, newRow]
    rfl
theorem op_box (c : Ctx E P Z h view β w s a) (hfr : h fr = .dead) {t : TypeId} {x : Operand} (ho : o.op = .box t x) (he : (evOp E view s fr o).eval = some r) : Does E P Z h β w a fr o r := by
  simp only [evOp, ho] at he
  split at he
  · rename_i hc
    simp only [Bool.and_eq_true] at hc
    simp only [Tr.eval, Option.some.injEq] at he
    have hcells := (c.val x).cells (by
      cases hv : ev E s x with
      | agg cs => exact .inl rfl
      | _ =>
        right
        have h1 := hc.2
        rw [hv] at h1
        simpa [V.cells] using h1) refOne
    obtain ⟨c1, c2⟩ := cx_alloc c.cx hfr (.cells (a.eval x).cells t) (.box false (ev E s x).cells) 0 rfl (fun O' R' hk hR => ⟨rfl, _, t, heap_alloc_new' w _, (RepL.kept hk _ _ _ _ hR hcells).takeAll⟩)
    refine ⟨_, _, .pointer (some ⟨w.heap.size, 0, none⟩), w.alloc (.cells (a.eval x).cells t), _, he.symm, .inl ?_, c1, c2, ⟨⟨false, _, by rw [updL, updL, upd_same]⟩, by rw [upd_same]⟩, touch_upd (.inr ⟨Nat.le_refl _, by omega⟩)⟩
    simp [execOp, ho, Instr.box, newVar, newRow]
    rfl
  · simp [Tr.eval] at he
theorem op_makeMap (c : Ctx E P Z h view β w s a) (hfr : h fr = .dead) {t : TypeId} (ho : o.op = .makeMap t none) (he : (evOp E view s fr o).eval = some r) : Does E P Z h β w a fr o r := by
  simp only [evOp, ho] at he
  split at he
  · simp only [Tr.eval, Option.some.injEq] at he
    obtain ⟨c1, c2⟩ := cx_alloc c.cx hfr (.map #[] 0) (.dict false t [] []) 0 rfl (fun O' R' hk hR => ⟨rfl, fun kt et _ => ⟨by simp, by simp⟩, #[], 0, heap_alloc_new' w _, rfl, rfl⟩)
    refine ⟨_, _, .map (some w.heap.size), w.alloc (.map #[] 0), _, he.symm, .inl ?_, c1, c2, ⟨⟨false, _, _, _, by rw [updL, updL, upd_same]⟩, by rw [upd_same]⟩, touch_upd (.inr ⟨Nat.le_refl _, by omega⟩)⟩
    simp [execOp, ho, Instr.makeMap]
  · simp [Tr.eval] at he

/-- A new row: of elements whose cells are given. -/
theorem RepSeq.flat {T : TypeId → Ty} {O : Nat → Prop} {t b : Nat} : ∀ (vs : List V) (off : Nat) (css : List (List Value)), css.length = vs.length → (∀ cs ∈ css, cs.length = (T t).size) →
    (∀ (n : Nat) (v : V) (cs : List Value), vs[n]? = some v → css[n]? = some cs → (isFormT (T t) v = true ∧ etaT (T t) v = v) ∧ Rep T w O v noR (mkVal (T t).agg cs)) → Lies w b off css.flatten → RepSeq T w O vs t b off
  | [], _, _, _, _, _, _ => trivial
  | v :: vs, off, [], h, _, _, _ => by simp at h
  | v :: vs, off, cs :: css, hl, hs, hr, hlie => by
    obtain ⟨h1, h2⟩ := hr 0 v cs rfl rfl
    have hsz := hs cs (by simp)
    refine ⟨h1, ⟨cs, hsz, fun j u hj => hlie j u ?_, h2⟩, RepSeq.flat vs _ css (by simpa using hl) (fun x hx => hs x (by simp [hx])) (fun n v' cs' h3 h4 => hr (n + 1) v' cs' (by simpa using h3) (by simpa using h4)) (fun j u hj => ?_)⟩
    · have hlt := (List.getElem?_eq_some_iff.1 hj).1
      rw [List.flatten_cons, List.getElem?_append_left hlt]
      exact hj
    · have := hlie ((T t).size + j) u (by
        rw [List.flatten_cons, List.getElem?_append_right (by omega), hsz]
        rw [show (T t).size + j - (T t).size = j from by omega]
        exact hj)
      rwa [← Nat.add_assoc] at this

theorem flatten_len : ∀ (css : List (List Value)) (n : Nat), (∀ cs ∈ css, cs.length = n) → css.flatten.length = css.length * n
  | [], _, _ => by simp
  | cs :: css, n, h => by
    rw [List.flatten_cons, List.length_append, flatten_len css n (fun x hx => h x (by simp [hx])), h cs (by simp), List.length_cons, Nat.succ_mul]
    omega
theorem flatten_set : ∀ (css : List (List Value)) (n i : Nat) (ys : List Value), (∀ cs ∈ css, cs.length = n) → i < css.length →
    (css.set i ys).flatten = css.flatten.take (i * n) ++ ys ++ css.flatten.drop (i * n + n)
  | [], _, _, _, _, hi => by simp at hi
  | cs :: css, n, 0, ys, h, _ => by
    have hc := h cs (by simp)
    simp [List.drop_append, hc]
  | cs :: css, n, i + 1, ys, h, hi => by
    have hc := h cs (by simp)
    have ih := flatten_set css n i ys (fun x hx => h x (by simp [hx])) (by simpa using hi)
    have e1 : List.take ((i + 1) * n) (cs ++ css.flatten) = cs ++ css.flatten.take (i * n) := by
      rw [List.take_append, List.take_of_length_le (l := cs) (by rw [hc, Nat.succ_mul]; omega), hc, show (i + 1) * n - n = i * n from by rw [Nat.succ_mul]; omega]
    have e2 : List.drop ((i + 1) * n + n) (cs ++ css.flatten) = css.flatten.drop (i * n + n) := by
      rw [List.drop_append, List.drop_of_length_le (l := cs) (by rw [hc, Nat.succ_mul]; omega), hc, show (i + 1) * n + n - n = i * n + n from by rw [Nat.succ_mul]; omega, List.nil_append]
    rw [List.set_cons_succ, List.flatten_cons, ih, List.flatten_cons, e1, e2]
    simp only [List.append_assoc]
/-- The elements of a new row, with their cells. -/
structure Elems (T : TypeId → Ty) (w : World) (O : Nat → Prop) (t : TypeId) (vs : List V) (css : List (List Value)) : Prop where
  len : css.length = vs.length
  size : ∀ cs ∈ css, cs.length = (T t).size
  rep : ∀ (n : Nat) (v : V) (cs : List Value), vs[n]? = some v → css[n]? = some cs → (isFormT (T t) v = true ∧ etaT (T t) v = v) ∧ Rep T w O v noR (mkVal (T t).agg cs)
theorem Elems.seq {T : TypeId → Ty} {O : Nat → Prop} {t b off : Nat} {vs : List V} {css : List (List Value)} (e : Elems T w O t vs css) (hl : Lies w b off css.flatten) : RepSeq T w O vs t b off :=
  RepSeq.flat vs off css e.len e.size e.rep hl
theorem Elems.kept {T : TypeId → Ty} {w' : World} {O O' : Nat → Prop} {t : Nat} {vs : List V} {css : List (List Value)} (hk : Kept w w' O O') (e : Elems T w O t vs css) : Elems T w' O' t vs css :=
  ⟨e.len, e.size, fun n v cs h1 h2 => ⟨(e.rep n v cs h1 h2).1, Rep.kept hk _ _ _ _ (fun _ _ h => h) (e.rep n v cs h1 h2).2⟩⟩
theorem Elems.set {T : TypeId → Ty} {O : Nat → Prop} {t i : Nat} {vs : List V} {css : List (List Value)} {v : V} {ys : List Value} (e : Elems T w O t vs css) (hy : ys.length = (T t).size) (hf : isFormT (T t) v = true ∧ etaT (T t) v = v) (hr : Rep T w O v noR (mkVal (T t).agg ys)) : Elems T w O t (vs.set i v) (css.set i ys) := by
  refine ⟨by simp [e.len], fun cs hc => ?_, fun n u cs h1 h2 => ?_⟩
  · rcases List.mem_or_eq_of_mem_set hc with h | h
    · exact e.size cs h
    · rw [h]; exact hy
  · rw [List.getElem?_set] at h1 h2
    by_cases hn : i = n
    · subst hn
      rw [if_pos rfl] at h1 h2
      split at h1
      · split at h2
        · simp at h1 h2; subst h1 h2; exact ⟨hf, hr⟩
        · cases h2
      · cases h1
    · rw [if_neg hn] at h1 h2
      exact e.rep n u cs h1 h2
theorem Elems.append {T : TypeId → Ty} {O : Nat → Prop} {t : Nat} {vs us : List V} {css dss : List (List Value)} (e : Elems T w O t vs css) (f : Elems T w O t us dss) : Elems T w O t (vs ++ us) (css ++ dss) := by
  refine ⟨by simp [e.len, f.len], fun cs hc => ?_, fun n u cs h1 h2 => ?_⟩
  · rcases List.mem_append.1 hc with h | h
    · exact e.size cs h
    · exact f.size cs h
  · by_cases hn : n < vs.length
    · rw [List.getElem?_append_left hn] at h1
      rw [List.getElem?_append_left (by rw [e.len]; exact hn)] at h2
      exact e.rep n u cs h1 h2
    · rw [List.getElem?_append_right (by omega)] at h1
      rw [List.getElem?_append_right (by rw [e.len]; omega), e.len] at h2
      exact f.rep _ u cs h1 h2
/-- The cells of a row that lies in memory. -/
theorem RepSeq.elems {T : TypeId → Ty} {O : Nat → Prop} {t b : Nat} : ∀ {vs : List V} {off : Nat}, RepSeq T w O vs t b off → ∃ css, Elems T w O t vs css ∧ Lies w b off css.flatten
  | [], _, _ => ⟨[], ⟨rfl, by simp, by simp⟩, by intro j u hj; simp at hj⟩
  | v :: vs, off, ⟨h1, ⟨cs, h2, h3, h4⟩, h5⟩ => by
    obtain ⟨css, e, hl⟩ := RepSeq.elems h5
    refine ⟨cs :: css, ⟨by simp [e.len], fun x hx => ?_, fun n u x hu hx => ?_⟩, fun j u hj => ?_⟩
    · rcases List.mem_cons.1 hx with rfl | hx
      · exact h2
      · exact e.size x hx
    · cases n with
      | zero => simp at hu hx; subst hu hx; exact ⟨h1, h4⟩
      | succ n => exact e.rep n u x (by simpa using hu) (by simpa using hx)
    · rw [List.flatten_cons] at hj
      by_cases hjc : j < cs.length
      · rw [List.getElem?_append_left hjc] at hj; exact h3 j u hj
      · rw [List.getElem?_append_right (by omega)] at hj
        have := hl _ u hj
        rwa [show off + (T t).size + (j - cs.length) = off + j from by omega] at this
theorem mkVal_cells {ty : Ty} {t : TypeId} (row : Row P t ty) {T : TypeId → Ty} {O : Nat → Prop} {R : V → Value → Prop} {v : V} {x : Value} (hf : isFormT ty v = true) (hr : Rep T w O v R x) (hR : ∀ r y, R r y → y.oneCell' = true) : mkVal ty.agg x.cells.toList = x ∧ x.cells.toList.length = ty.size := by
  have hl : RepL T w O v.cells R x.cells.toList := by
    refine hr.cells ?_ hR
    have ho := fun ha => row.one ha
    obtain ⟨size, agg, bytes, kinds, d, eq⟩ := ty
    cases agg with
    | true => cases v <;> simp [isFormT] at hf; exact .inl rfl
    | false =>
      obtain ⟨_, k, hk⟩ := ho rfl
      simp only at hk
      subst hk
      exact .inr (form_storable hf)
  have h2 := (rep_mkVal row hf hl).2
  refine ⟨?_, h2⟩
  have ho := fun ha => row.one ha
  obtain ⟨size, agg, bytes, kinds, d, eq⟩ := ty
  cases agg with
  | true =>
    cases v <;> simp [isFormT] at hf
    obtain ⟨p, rfl, _⟩ := hr
    rfl
  | false =>
    obtain ⟨h3, k, hk⟩ := ho rfl
    simp only at h3 h2
    rw [h3] at h2
    have : x.cells = #[x] := by
      cases x <;> first | rfl | skip
      simp only at hk
      subst hk
      have := form_storable (k := k) hf
      have := hr.one this hR
      simp [Value.oneCell'] at this
    rw [this]
    rfl
theorem noRef_noR {T : TypeId → Ty} {O : Nat → Prop} {v : V} {x : Value} (hr : Rep T w O v (RefRep T h β) x) (hn : v.noRef = true) : Rep T w O v noR x := hr.noRef hn (fun _ _ h => h.refs)
theorem fillRow_sound (c : Ctx E P Z h view β w s a) {t : TypeId} (row : Row P t (E.ty t)) :
    ∀ (parts : List (Nat × Operand)) (vs vs' : List V) (css : List (List Value)), Elems E.ty w (Own Z h β) t vs css → fillRow (E.ty t) (ev E s) parts vs = some vs' →
    ∃ css', Elems E.ty w (Own Z h β) t vs' css' ∧ Instr.fill (fun i => some (i * (E.ty t).size, (E.ty t).size)) css.flatten.toArray (parts.map fun x => (x.1, a.eval x.2)) = some css'.flatten.toArray
  | [], vs, vs', css, e, hf => by simp [fillRow] at hf; subst hf; exact ⟨css, e, rfl⟩
  | (i, x) :: parts, vs, vs', css, e, hf => by
    unfold fillRow at hf
    split at hf
    · rename_i hc
      rw [Bool.and_eq_true] at hc
      split at hf
      · rename_i hi
        have hi' : i < vs.length := by
          have : decide (i < vs.length) = true := by simpa [Nat.blt_eq] using hi
          simpa using this
        obtain ⟨m1, m2⟩ := mkVal_cells row hc.1 (c.val x) refOne
        have heta := noRef_noR (c.val x) hc.2
        have hrep : Rep E.ty w (Own Z h β) (etaT (E.ty t) (ev E s x)) noR (mkVal (E.ty t).agg (a.eval x).cells.toList) := by rw [m1]; exact heta.etaT hc.1
        have hform : isFormT (E.ty t) (etaT (E.ty t) (ev E s x)) = true := form_etaT hc.1
        have e' := e.set (i := i) m2 ⟨hform, etaT_etaT _ _⟩ hrep
        obtain ⟨css', e2, hfill⟩ := fillRow_sound c row parts _ vs' _ e' hf
        refine ⟨css', e2, ?_⟩
        have hlen := flatten_len css _ e.size
        have hil : i < css.length := by rw [e.len]; exact hi'
        have hb : i * (E.ty t).size + (E.ty t).size ≤ css.flatten.length := by
          rw [hlen, ← Nat.succ_mul]
          exact Nat.mul_le_mul_right _ hil
        have hsz : (a.eval x).cells.size = (E.ty t).size := by simpa using m2
        simp only [List.map_cons, Instr.fill]
        have hcond : ¬ ((decide ((a.eval x).cells.size ≠ (E.ty t).size) || decide (i * (E.ty t).size + (a.eval x).cells.size > css.flatten.toArray.size)) = true) := by
          rw [hsz]; simp at hb ⊢; omega
        rw [if_neg hcond]
        have hset := foldl_set (a.eval x).cells.toList (i * (E.ty t).size) 0 css.flatten.toArray (by rw [Array.length_toList, hsz]; simpa using hb)
        have heq : ((a.eval x).cells.zipIdx.foldl (fun cs (x : Value × Nat) => cs.setIfInBounds (i * (E.ty t).size + x.2) x.1) css.flatten.toArray) = (css.set i (a.eval x).cells.toList).flatten.toArray := by
          apply Array.toList_inj.1
          rw [← Array.foldl_toList, Array.toList_zipIdx, hset, flatten_set css _ i _ e.size hil]
          simp [hsz]
        rw [heq]
        exact hfill
      · cases hf
    · cases hf
end
end Go.AH

namespace Go.AH
open Go Go.RowKit

section
variable {E : Env} {P : Program} {Z : Nat → Prop} {h view : Nat → Ob} {β : Nat → Loc} {w : World} {s : Nat → V} {a : Act} {fr : Nat} {o : Oper} {r : Rs}

theorem bytes_seq {T : TypeId → Ty} {O : Nat → Prop} {e b : Nat} (hk : (T e).kinds = [.int .u8]) (ha : (T e).agg = false) (hs : (T e).size = 1) : ∀ (l : List UInt8) (o : Nat), (∀ j x, l[j]? = some x → w.cell? ⟨b, o + j, none⟩ = some (.int .u8 x.toNat)) → RepSeq T w O (l.map fun c => V.int .u8 c.toNat) e b o
  | [], _, _ => trivial
  | x :: l, o, h => by
    refine ⟨⟨?_, ?_⟩, ⟨[.int .u8 x.toNat], by rw [hs]; rfl, fun j u hj => ?_, ?_⟩, ?_⟩
    · simp [isFormT, ha, hk, isForm]
    · simp [etaT, ha, hk, eta, V.toI]
    · cases j with
      | zero =>
        simp at hj
        subst hj
        exact h 0 x rfl
      | succ j => simp at hj
    · rw [ha]
      rfl
    · rw [hs]
      refine bytes_seq hk ha hs l (o + 1) (fun j y hj => ?_)
      have := h (j + 1) y (by simpa using hj)
      rw [show o + 1 + j = o + (j + 1) from by omega]
      exact this
theorem op_convB (c : Ctx E P Z h view β w s a) {src dst : TypeId} {x : Operand} {e : TypeId} {b : List UInt8} (hd : (E.ty dst).d = .slice e) (hv : ev E s x = .str b) (ho : o.op = .convert src dst x) (he : (evOp E view s fr o).eval = some r) : Does E P Z h β w a fr o r := by
  simp only [evOp, ho, hd, hv] at he
  have hx := c.val x
  rw [hv] at hx
  obtain ⟨sb, hx, hsb⟩ := hx
  split at he
  · rename_i hs hde
    simp only [Tr.eval, Option.some.injEq] at he
    obtain ⟨us, hus⟩ := Option.isSome_iff_exists.1 (c.ty.row hs).under
    have okd : (E.ty dst).ok = true := by unfold Ty.ok; rw [hd]
    have oke : (E.ty e).ok = true := by unfold Ty.ok; rw [hde]
    obtain ⟨hud, _⟩ := (c.ty.row okd).slice hd
    have rowe := c.ty.row oke
    obtain ⟨hue, ha, hk⟩ := rowe.int hde
    have hsz := (rowe.one ha).1
    have hq : Quiet 0 w (Lib.bytesWorld w e sb) := ⟨rfl, rfl, rfl, by rw [Lib.bytesWorld_size]; omega, fun k hk => .inl (Lib.bytesWorld_at_old w e sb k hk)⟩
    have hrun := Lib.run_convert_string_bytes (P := P) w src dst e sb hus hud hue
    have hnew : ¬ Own Z h β w.heap.size := by
      rintro (hz | ⟨i, mi, e⟩)
      · have := c.cx.zlt _ hz; omega
      · have := (c.cx.ob i).lt (Ob.rw_alive mi.1) mi.2
        omega
    have hlen : (b.map fun c => V.int .u8 c.toNat).length = sb.size := by
      rw [List.length_map, ← hsb, Array.length_toList]
      rfl
    have hdone : Done E Z h β w fr (.seq e (b.map fun c => V.int .u8 c.toNat)) [] (.slice (some ⟨w.heap.size, 0, none⟩) sb.size (grownCap w sb.size 0 e)) β (Lib.bytesWorld w e sb) := by
      refine ⟨c.cx.quiet hq, ⟨rfl, rfl, rfl, hq.size, fun k hk _ => Lib.bytesWorld_at_old w e sb k hk, fun i mi => .inl ⟨i, mi, rfl⟩, fun i => Hd.refl _ _⟩, ?_, fun i hi => absurd rfl hi⟩
      refine ⟨_, _, by rw [hlen], by rw [hlen]; exact grownCap_ge w sb.size 0 e, ?_⟩
      refine .inr ⟨w.heap.size, 0, rfl, by rw [Lib.bytesWorld_size]; omega, hnew, bytes_seq hk ha hsz b 0 (fun j y hj => ?_)⟩
      have hlt : j < sb.size := by
        have := (List.getElem?_eq_some_iff.1 hj).1
        rw [← hsb, Array.length_toList] at this
        exact this
      rw [Nat.zero_add, Lib.bytesWorld_cell w e sb j hlt, hsb]
      simp [List.getD, hj]
    exact ⟨_, _, _, _, β, he.symm, .inl (by simp [execOp, ho, hx, hrun]), hdone⟩
  · simp [Tr.eval] at he
end
end Go.AH

namespace Go.AH
open Go Go.RowKit

section
variable {E : Env} {P : Program} {Z : Nat → Prop} {h view : Nat → Ob} {β : Nat → Loc} {w : World} {s : Nat → V} {a : Act} {fr : Nat} {o : Oper} {r : Rs}

theorem op_range (c : Ctx E P Z h view β w s a) (hfr : h fr = .dead) {t : TypeId} {x : Operand} (ho : o.op = .range t x) (he : (evOp E view s fr o).eval = some r) : Does E P Z h β w a fr o r := by
  simp only [evOp, ho] at he
  split at he
  · rename_i b hd hv
    simp only [Tr.eval, Option.some.injEq] at he
    have hx := c.val x
    rw [hv] at hx
    obtain ⟨sb, hx, hsb⟩ := hx
    obtain ⟨hu, _⟩ := (c.ty.row (by unfold Ty.ok; rw [hd])).str hd
    obtain ⟨c1, c2⟩ := cx_alloc c.cx hfr (.stringIter sb 0) (.sit false b 0) 0 rfl (fun O' R' hk hR => ⟨rfl, sb, hsb, heap_alloc_new' w _⟩)
    refine ⟨_, _, .pointer (some ⟨w.heap.size, 0, none⟩), w.alloc (.stringIter sb 0), _, he.symm, .inl ?_, c1, c2, ⟨⟨false, _, _, by rw [updL, updL, upd_same]⟩, by rw [upd_same]⟩, touch_upd (.inr ⟨Nat.le_refl _, by omega⟩)⟩
    simp [execOp, ho, Instr.range, hx, run_underlying hu]
  · simp [Tr.eval] at he
theorem op_next (c : Ctx E P Z h view β w s a) {x : Operand} (ho : o.op = .next x true) (he : (evOp E view s fr o).eval = some r) : Does E P Z h β w a fr o r := by
  simp only [evOp, ho] at he
  split at he
  · rename_i i hv
    have hx := c.val x
    rw [hv] at hx
    obtain ⟨_, hx⟩ := hx
    split at he
    · rename_i b k hq
      have hib := c.sees.at_ hq (by simp)
      have hob := c.cx.ob i
      rw [hib] at hob
      obtain ⟨hn, sb, hsb, hb⟩ := hob
      have hmine : Mine h β i := ⟨by rw [hib]; rfl, hn⟩
      have hlen : sb.size = b.length := by
        rw [← hsb, Array.length_toList]
        rfl
      split at he
      · rename_i ch hch
        obtain ⟨h1, h2⟩ := eval_test he
        simp only [Tr.eval, Option.some.injEq] at h2
        have hlt : k < sb.size := by
          rw [hlen]
          exact (List.getElem?_eq_some_iff.1 hch).1
        have hget : sb[k]'hlt = ch := by
          have h3 : sb.data.toList[k]? = some ch := by rw [hsb]; exact hch
          have h4 : sb.data[k]? = some ch := by simpa using h3
          have h5 : sb.data[k]? = some (sb.data[k]'hlt) := Array.getElem?_eq_getElem hlt
          rw [h5, Option.some.injEq] at h4
          exact h4
        have hdec := decode_ascii sb k hlt (by rw [hget]; exact Nat.le_of_ble_eq_true h1)
        have hrun := Lib.run_next_any_at (P := P) w (β i).b sb k o.type hb hlt
        rw [hdec] at hrun
        have hW : (w.iterAt (β i).b sb (k + 1)).heap[(β i).b]? = some (.stringIter sb (k + 1)) := by
          have := (Array.getElem?_eq_some_iff.1 hb).1
          simp [World.iterAt, this]
        obtain ⟨c1, c2⟩ := c.cx.update (w' := w.iterAt (β i).b sb (k + 1)) i (.sit false b (k + 1)) (β i) rfl rfl rfl (by simp [World.iterAt]) (fun b2 hb2 hne => by
            show (w.heap.setIfInBounds (β i).b _)[b2]? = _
            rw [Array.getElem?_setIfInBounds, if_neg (hne hmine)]) rfl (fun _ => .inl ⟨hmine, rfl⟩)
          (by rw [hib]; exact ⟨⟨_, _, _, rfl⟩, rfl⟩) (fun hk hR => ⟨hn, sb, hsb, hW⟩)
        refine ⟨_, _, .tuple #[.bool true, .int .i64 k, .int .i32 ch.toNat], _, _, h2.symm, .inl ?_, c1, c2, ⟨_, rfl, ⟨_, _, rfl, rfl, _, _, rfl, rfl, _, _, rfl, rfl, rfl⟩⟩, touch_upd (.inl (by rw [hib]; rfl))⟩
        simp only [execOp, ho, hx, Sem.run_bind, hrun, Result.andThen_ok, Sem.run_pure, hget]
      · rename_i hch
        simp only [Tr.eval, Option.some.injEq] at he
        have hge : ¬ k < sb.size := by
          rw [hlen]
          exact fun h => by rw [List.getElem?_eq_getElem h] at hch; cases hch
        have hrun : (Instr.next (.pointer (some ⟨(β i).b, 0, none⟩)) true o.type).run P w = .ok (.tuple #[.bool false]) w := by
          simp [Instr.next, getObj, Sem.run, hb, hge]
        refine Gives.does c ⟨_, .tuple #[.bool false], he.symm, ?_, ⟨_, rfl, ⟨_, _, rfl, rfl, rfl⟩⟩⟩
        simp only [execOp, ho, hx, Sem.run_bind, hrun, Result.andThen_ok, Sem.run_pure]
    · simp [Tr.eval] at he
  · simp [Tr.eval] at he
end
end Go.AH
