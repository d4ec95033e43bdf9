/- A map whose keys are structs of a string and an int: what a look-up and a store do to its block. -/
import Derived.Test.YtecplbjggbelbaaMem
import Derived.Maps.OwnOps
namespace Go.Proofs.Ytecplbjggbelbaa
open Go.RowKit

def ekey (nm : ByteArray) (t : Int) : Value := .agg #[.string nm, .int .i64 t]
structure Ent where
  nm : ByteArray
  t : Int
  i : Int
  born : Nat
def Ent.entry (e : Ent) : MapEntry := { key := ekey e.nm e.t, val := .int .i64 e.i, born := e.born }
def Ent.is (e : Ent) (nm : ByteArray) (t : Int) : Bool := nm.toList == e.nm.toList && t == e.t
def look (nm : ByteArray) (t : Int) : List Ent → Option Int
  | [] => none
  | e :: r => if e.is nm t then some e.i else look nm t r

theorem run_ekey (nm nm' : ByteArray) (t t' : Int) (w : World) : (Op.equal 68 (ekey nm t) (ekey nm' t')).run Try.prog w = .ok (nm.toList == nm'.toList && t == t') w := by
  unfold Op.equal Op.maxDepth ekey
  go_simp
  by_cases h1 : nm.toList = nm'.toList <;> by_cases h2 : t = t' <;> simp [h1, h2]
theorem run_check (em : Bool) (nm : ByteArray) (t : Int) (w : World) : (Instr.checkKey em 10000 68 (ekey nm t)).run Try.prog w = .ok () w := by
  have h1 : ∀ n, (Instr.checkKey em (n + 1) 9 (.string nm)).run Try.prog w = .ok () w := fun n => by
    simp [Instr.checkKey, run_underlying Try.underlying9]
  have h2 : ∀ n, (Instr.checkKey em (n + 1) 3 (.int .i64 t)).run Try.prog w = .ok () w := fun n => by
    simp [Instr.checkKey, run_underlying Try.underlying3]
  unfold ekey
  rw [show (10000 : Nat) = 9998 + 1 + 1 from rfl]
  generalize 9998 = n at *
  unfold Instr.checkKey
  simp [run_underlying Try.underlying68, go_sem, h1, h2]

def fnd (nm : ByteArray) (t : Int) : List Ent → Nat → Option (Nat × Value)
  | [], _ => none
  | e :: r, i => if e.is nm t then some (i, .int .i64 e.i) else fnd nm t r (i + 1)
theorem run_find (nm : ByteArray) (t : Int) (w : World) : ∀ (l : List Ent) (i : Nat), (Instr.findAsking 68 (ekey nm t) (l.map Ent.entry) i).run Try.prog w = .ok (fnd nm t l i) w
  | [], i => by simp [Instr.findAsking, fnd]
  | e :: r, i => by
    have h := run_ekey nm e.nm t e.t w
    simp only [List.map_cons, Instr.findAsking, Sem.run_bind]
    rw [show (Ent.entry e).key = ekey e.nm e.t from rfl, h]
    simp only [Result.andThen, fnd, Ent.is]
    by_cases hq : (nm.toList == e.nm.toList && t == e.t) = true
    · simp [hq]; rfl
    · have hq' : (nm.toList == e.nm.toList && t == e.t) = false := by simpa using hq
      have e2 : e.is nm t = false := hq'
      simp only [hq']
      rw [show (if (false : Bool) = true then some (i, Value.int .i64 e.i) else fnd nm t r (i + 1)) = fnd nm t r (i + 1) from rfl]
      exact run_find nm t w r (i + 1)
theorem run_findKey (nm : ByteArray) (t : Int) (w : World) (l : List Ent) : (Instr.findKey 68 (ekey nm t) (l.map Ent.entry)).run Try.prog w = .ok (fnd nm t l 0) w := by
  have hn : l ≠ [] → ∀ d, (match d with | .struct _ => true | _ => false) = true → Instr.findNow d (ekey nm t) (l.map Ent.entry) 0 = none := fun h d hd => by
    cases l with
    | nil => exact absurd rfl h
    | cons e r => cases d <;> simp at hd; rfl
  cases l with
  | nil => simp [Instr.findKey, run_underlying Try.underlying68, Instr.findNow, fnd]
  | cons e r =>
    have := run_find nm t w (e :: r) 0
    simp only [Instr.findKey, Sem.run_bind, run_underlying Try.underlying68, Result.andThen]
    rw [hn (by simp) _ rfl]
    exact this
theorem look_fnd (nm : ByteArray) (t : Int) : ∀ (l : List Ent) (i : Nat), (fnd nm t l i).map (·.2) = (look nm t l).map (Value.int .i64)
  | [], _ => rfl
  | e :: r, i => by
    unfold fnd look
    split
    · rfl
    · exact look_fnd nm t r (i + 1)
/-- Block b is a map with these entries. -/
def IsMap (w : World) (b : Nat) (l : List Ent) : Prop := ∃ clock, w.heap[b]? = some (.map (l.map Ent.entry).toArray clock)
theorem run_look (nm : ByteArray) (t : Int) (w : World) (b : Nat) (l : List Ent) (h : IsMap w b l) :
    (Instr.lookup 66 (.map (some b)) (ekey nm t) true).run Try.prog w = .ok (.tuple #[.int .i64 ((look nm t l).getD 0), .bool (look nm t l).isSome]) w := by
  obtain ⟨clock, hb⟩ := h
  have hz : (zeroValue 3).run Try.prog w = .ok (.int .i64 0) w := by kernel_rfl
  have hf := run_findKey nm t w l
  have hl := look_fnd nm t l 0
  have hg : (getObj b).run Try.prog w = .ok (.map (l.map Ent.entry).toArray clock) w := by simp [getObj, Sem.run, hb]
  unfold Instr.lookup
  simp only [Sem.run_bind, run_underlying Try.underlying66, Result.andThen, hg, Sem.run_pure, run_check]
  rw [hf]
  cases h1 : fnd nm t l 0 with
  | none =>
    rw [h1] at hl
    cases h2 : look nm t l with
    | none => simp [hz]
    | some i => rw [h2] at hl; cases hl
  | some x =>
    rw [h1] at hl
    cases h2 : look nm t l with
    | none => rw [h2] at hl; cases hl
    | some i => rw [h2] at hl; simp at hl; simp [hl]
theorem run_put (nm : ByteArray) (t i : Int) (w : World) (b : Nat) (l : List Ent) (h : IsMap w b l) (hno : look nm t l = none) :
    ∃ w', (Instr.mapUpdate 66 (.map (some b)) (ekey nm t) (.int .i64 i)).run Try.prog w = .ok () w' ∧ (∃ born, IsMap w' b (l ++ [⟨nm, t, i, born⟩])) ∧ w.grownBy w' (some b) := by
  obtain ⟨clock, hb⟩ := h
  have hlt : b < w.heap.size := (Array.getElem?_eq_some_iff.1 hb).1
  have hf := run_findKey nm t w l
  have hl := look_fnd nm t l 0
  have hg : (getObj b).run Try.prog w = .ok (.map (l.map Ent.entry).toArray clock) w := by simp [getObj, Sem.run, hb]
  have h1 : fnd nm t l 0 = none := by
    rw [hno] at hl
    cases h2 : fnd nm t l 0 with
    | none => rfl
    | some x => rw [h2] at hl; cases hl
  rw [h1] at hf
  refine ⟨{ w with heap := w.heap.setIfInBounds b (.map ((l.map Ent.entry).toArray.push { key := ekey nm t, val := .int .i64 i, born := clock }) (clock + 1)) }, ?_, ⟨clock, clock + 1, ?_⟩, ?_⟩
  · unfold Instr.mapUpdate
    simp only [Sem.run_bind, run_underlying Try.underlying66, Result.andThen, hg, run_check]
    rw [hf]
    simp [setObj, Sem.run, hb]
  · simp [Array.getElem?_setIfInBounds, hlt, Ent.entry]
  · exact ⟨rfl, rfl, rfl, by simp, fun k hk hne => by
      have : b ≠ k := fun e => hne (by rw [e])
      simp [Array.getElem?_setIfInBounds, this]⟩

theorem wpList_look {ops : Array Oper} {rest : List Oper} {o : Oper} {a : Act} {Q : Exit → Act → World → Prop} (w : World) (hg : o.guard = none) (m x : Operand) (hop : o.op = Op.lookup 66 m x true) (b : Nat) (l : List Ent) (nm : ByteArray) (t : Int)
    (hm : a.eval m = .map (some b)) (hx : a.eval x = ekey nm t) (h : IsMap w b l)
    (hK : wpList Try.prog ops Q rest (a.put o.dst (.tuple #[.int .i64 ((look nm t l).getD 0), .bool (look nm t l).isSome])) w) : wpList Try.prog ops Q (o :: rest) a w := by
  refine wpList_plain hg fun K' hK' => ?_
  unfold Oper.wp
  simp [execOp, hop, hm, hx, run_look nm t w b l h, Result.andThen]
  exact hK' _ _ hK
theorem wpList_put {ops : Array Oper} {rest : List Oper} {o : Oper} {a : Act} {Q : Exit → Act → World → Prop} (w : World) (hg : o.guard = none) (m x y : Operand) (hop : o.op = Op.mapUpdate 66 m x y) (b : Nat) (l : List Ent) (nm : ByteArray) (t i : Int)
    (hm : a.eval m = .map (some b)) (hx : a.eval x = ekey nm t) (hy : a.eval y = .int .i64 i) (h : IsMap w b l) (hno : look nm t l = none)
    (hK : ∀ w' born, IsMap w' b (l ++ [⟨nm, t, i, born⟩]) → w.grownBy w' (some b) → wpList Try.prog ops Q rest (a.put o.dst undef) w') : wpList Try.prog ops Q (o :: rest) a w := by
  refine wpList_plain hg fun K' hK' => ?_
  obtain ⟨w', hr, ⟨born, h1⟩, h2⟩ := run_put nm t i w b l h hno
  unfold Oper.wp
  simp [execOp, hop, hm, hx, hy, hr, Result.andThen]
  exact hK' _ _ (hK w' born h1 h2)

theorem IsMap.grown {w w' : World} {b : Nat} {l : List Ent} {row : Option Nat} (h : IsMap w b l) (hg : w.grownBy w' row) (hne : some b ≠ row) : IsMap w' b l := by
  obtain ⟨c, hb⟩ := h
  exact ⟨c, (hg.block b (Array.getElem?_eq_some_iff.1 hb).1 hne).trans hb⟩
theorem IsMap.lt {w : World} {b : Nat} {l : List Ent} (h : IsMap w b l) : b < w.heap.size := by
  obtain ⟨c, hb⟩ := h
  exact (Array.getElem?_eq_some_iff.1 hb).1
theorem IsMap.alloc {w : World} {b : Nat} {l : List Ent} (h : IsMap w b l) (o : Obj) : IsMap (w.alloc o) b l := h.grown (World.grownBy_alloc w o none) (by simp)
theorem IsMap.new (w : World) : IsMap (w.alloc (.map #[] 0)) w.heap.size [] := ⟨0, by rw [heap_alloc_new]; rfl⟩
end Go.Proofs.Ytecplbjggbelbaa
