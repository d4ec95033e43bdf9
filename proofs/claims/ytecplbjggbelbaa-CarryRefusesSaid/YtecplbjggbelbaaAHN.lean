/- Operations that make memory. -/
import Derived.Test.YtecplbjggbelbaaAHM
namespace Go.AH
open Go Go.RowKit

section
variable {E : Env} {P : Program} {Z : Nat → Prop} {h view : Nat → Ob} {β : Nat → Loc} {w : World} {s : Nat → V} {a : Act} {fr : Nat} {o : Oper} {r : Rs}

/-- Only what was alive, or is one of the operation's own numbers, has changed. -/
def Touch (h h' : Nat → Ob) (fr : Nat) : Prop := ∀ i, h' i ≠ h i → (h i).alive = true ∨ (fr ≤ i ∧ i < fr + 64)
/-- What an operation does to the world: its value, and the heap behind it. -/
structure Done (E : Env) (Z : Nat → Prop) (h : Nat → Ob) (β : Nat → Loc) (w : World) (fr : Nat) (v : V) (u : Upd) (x : Value) (β' : Nat → Loc) (w' : World) : Prop where
  cx : Cx E.ty E.glob Z (updL h u) β' w'
  st : Stp h β w (updL h u) β' w'
  rep : Rep E.ty w' (Own Z (updL h u) β') v (RefRep E.ty (updL h u) β') x
  touch : Touch h (updL h u) fr
/-- The operation gives a value (or none), and writes. -/
def Does (E : Env) (P : Program) (Z : Nat → Prop) (h : Nat → Ob) (β : Nat → Loc) (w : World) (a : Act) (fr : Nat) (o : Oper) (r : Rs) : Prop :=
  ∃ v u x w' β', r = .ok v u ∧ ((execOp a.eval o).run P w = .ok (.value x) w' ∨ (execOp a.eval o).run P w = .ok .skip w' ∧ x = undef) ∧ Done E Z h β w fr v u x β' w'
theorem Gives.does (c : Ctx E P Z h view β w s a) (g : Gives E P Z h β w a o r) : Does E P Z h β w a fr o r := by
  obtain ⟨v, x, h1, h2, h3⟩ := g
  exact ⟨v, [], x, w, β, h1, .inl h2, c.cx, Stp.refl, h3, fun i hi => absurd rfl hi⟩
theorem touch_upd {i : Nat} {ob : Ob} (hi : (h i).alive = true ∨ (fr ≤ i ∧ i < fr + 64)) : Touch h (updL h [(i, ob)]) fr := by
  intro j hj
  by_cases hji : j = i
  · subst hji; exact hi
  · exact absurd (upd_other h ob hji) hj

theorem heap_alloc_new' (w : World) (ob : Obj) : (w.alloc ob).heap[w.heap.size]? = some ob := by
  show (w.heap.push ob)[w.heap.size]? = some ob
  rw [Array.getElem?_push, if_pos rfl]
theorem heap_alloc_old' (w : World) (ob : Obj) {k : Nat} (hk : k < w.heap.size) : (w.alloc ob).heap[k]? = w.heap[k]? := Below.heap_alloc w ob k hk
/-- A new block. -/
theorem cx_alloc {T : TypeId → Ty} {G : Nat → V} (cx : Cx T G Z h β w) (hfr : h fr = .dead) (ob : Obj) (ob' : Ob) (cap : Nat) (hrw : ob'.rw = true)
    (hob : ∀ (O' : Nat → Prop) (R' : V → Value → Prop), Kept w (w.alloc ob) (Own Z h β) O' → (∀ r y, RefRep T h β r y → R' r y) → ObRep T (w.alloc ob) O' R' ⟨w.heap.size, cap, false⟩ ob') :
    Cx T G Z (upd h fr ob') (upd β fr ⟨w.heap.size, cap, false⟩) (w.alloc ob) ∧ Stp h β w (upd h fr ob') (upd β fr ⟨w.heap.size, cap, false⟩) (w.alloc ob) :=
  cx.update fr ob' _ rfl rfl rfl (by simp) (fun b hb _ => heap_alloc_old' w ob hb) hrw (fun _ => .inr ⟨Nat.le_refl _, by simp⟩) (by rw [hfr]; exact trivial) (fun hk hR => hob _ _ hk hR)

theorem op_alloc (c : Ctx E P Z h view β w s a) (hfr : h fr = .dead) {t : TypeId} (ho : o.op = .alloc t) (he : (evOp E view s fr o).eval = some r) : Does E P Z h β w a fr o r := by
  simp only [evOp, ho] at he
  cases ht : (E.ty t).ok with
  | false => simp [ht, Tr.eval] at he
  | true =>
    simp only [ht, Tr.eval, Option.some.injEq] at he
    have row := c.ty.row ht
    obtain ⟨z, hz, _, _, _⟩ := row.rep_zero (T := E.ty) (w := w) (O := Own Z h β) w (RefRep E.ty h β)
    have key : ∀ w' (O' : Nat → Prop) R', RepL E.ty w' O' (zeroT (E.ty t)).cells R' z.cells.toList := by
      intro w' O' R'
      obtain ⟨z', hz', _, h2, _⟩ := row.rep_zero (T := E.ty) (w := w') (O := O') w R'
      rw [hz] at hz'
      simp only [Result.ok.injEq, and_true] at hz'
      subst hz'
      exact h2
    obtain ⟨c1, c2⟩ := cx_alloc c.cx hfr (.cells z.cells t) (.box false (zeroT (E.ty t)).cells) 0 rfl (fun O' R' _ _ => ⟨rfl, z.cells, t, heap_alloc_new' w _, key _ O' R'⟩)
    refine ⟨_, _, .pointer (some ⟨w.heap.size, 0, none⟩), w.alloc (.cells z.cells t), _, he.symm, .inl ?_, c1, c2, ⟨⟨false, _, by rw [updL, updL, upd_same]⟩, by rw [upd_same]⟩, touch_upd (.inr ⟨Nat.le_refl _, by omega⟩)⟩
    simp [execOp, ho, Instr.alloc, hz, newVar, newRow]
    rfl
theorem op_box (c : Ctx E P Z h view β w s a) (hfr : h fr = .dead) {t : TypeId} {x : Operand} (ho : o.op = .box t x) (he : (evOp E view s fr o).eval = some r) : Does E P Z h β w a fr o r := by
  simp only [evOp, ho] at he
  split at he
  · rename_i hc
    simp only [Bool.and_eq_true] at hc
    simp only [Tr.eval, Option.some.injEq] at he
    have hcells := (c.val x).cells (by
      cases hv : ev E s x with
      | agg cs => exact .inl rfl
      | _ =>
        right
        have h1 := hc.2
        rw [hv] at h1
        simpa [V.cells] using h1) refOne
    obtain ⟨c1, c2⟩ := cx_alloc c.cx hfr (.cells (a.eval x).cells t) (.box false (ev E s x).cells) 0 rfl (fun O' R' hk hR => ⟨rfl, _, t, heap_alloc_new' w _, RepL.kept hk _ _ _ _ hR hcells⟩)
    refine ⟨_, _, .pointer (some ⟨w.heap.size, 0, none⟩), w.alloc (.cells (a.eval x).cells t), _, he.symm, .inl ?_, c1, c2, ⟨⟨false, _, by rw [updL, updL, upd_same]⟩, by rw [upd_same]⟩, touch_upd (.inr ⟨Nat.le_refl _, by omega⟩)⟩
    simp [execOp, ho, Instr.box, newVar, newRow]
    rfl
  · simp [Tr.eval] at he
theorem op_makeMap (c : Ctx E P Z h view β w s a) (hfr : h fr = .dead) {t : TypeId} (ho : o.op = .makeMap t none) (he : (evOp E view s fr o).eval = some r) : Does E P Z h β w a fr o r := by
  simp only [evOp, ho] at he
  split at he
  · simp only [Tr.eval, Option.some.injEq] at he
    obtain ⟨c1, c2⟩ := cx_alloc c.cx hfr (.map #[] 0) (.dict false t [] []) 0 rfl (fun O' R' hk hR => ⟨rfl, fun kt et _ => ⟨by simp, by simp⟩, #[], 0, heap_alloc_new' w _, rfl, rfl⟩)
    refine ⟨_, _, .map (some w.heap.size), w.alloc (.map #[] 0), _, he.symm, .inl ?_, c1, c2, ⟨⟨false, _, _, _, by rw [updL, updL, upd_same]⟩, by rw [upd_same]⟩, touch_upd (.inr ⟨Nat.le_refl _, by omega⟩)⟩
    simp [execOp, ho, Instr.makeMap]
  · simp [Tr.eval] at he

/-- A new row: of elements whose cells are given. -/
theorem RepSeq.flat {T : TypeId → Ty} {O : Nat → Prop} {t b : Nat} : ∀ (vs : List V) (off : Nat) (css : List (List Value)), css.length = vs.length → (∀ cs ∈ css, cs.length = (T t).size) →
    (∀ (n : Nat) (v : V) (cs : List Value), vs[n]? = some v → css[n]? = some cs → (isFormT (T t) v = true ∧ etaT (T t) v = v) ∧ Rep T w O v noR (mkVal (T t).agg cs)) → Lies w b off css.flatten → RepSeq T w O vs t b off
  | [], _, _, _, _, _, _ => trivial
  | v :: vs, off, [], h, _, _, _ => by simp at h
  | v :: vs, off, cs :: css, hl, hs, hr, hlie => by
    obtain ⟨h1, h2⟩ := hr 0 v cs rfl rfl
    have hsz := hs cs (by simp)
    refine ⟨h1, ⟨cs, hsz, fun j u hj => hlie j u ?_, h2⟩, RepSeq.flat vs _ css (by simpa using hl) (fun x hx => hs x (by simp [hx])) (fun n v' cs' h3 h4 => hr (n + 1) v' cs' (by simpa using h3) (by simpa using h4)) (fun j u hj => ?_)⟩
    · have hlt := (List.getElem?_eq_some_iff.1 hj).1
      rw [List.flatten_cons, List.getElem?_append_left hlt]
      exact hj
    · have := hlie ((T t).size + j) u (by
        rw [List.flatten_cons, List.getElem?_append_right (by omega), hsz]
        rw [show (T t).size + j - (T t).size = j from by omega]
        exact hj)
      rwa [← Nat.add_assoc] at this

theorem isFormL_etaL : ∀ (ks : List Kd) (cs : List V) (j : Nat) (v : V), isFormL ks cs = true → (∀ i : Nat, v.cell (j + i) = cs.getD i .top) → isFormL ks (etaL ks j v) = true
  | [], [], _, _, _, _ => rfl
  | [], _ :: _, _, _, h, _ => by simp [isFormL] at h
  | _ :: _, [], _, _, h, _ => by simp [isFormL] at h
  | k :: ks, c :: cs, j, v, h, hv => by
    rw [isFormL, Bool.and_eq_true] at h
    have h0 := hv 0
    rw [Nat.add_zero, List.getD_cons_zero] at h0
    rw [etaL, isFormL, Bool.and_eq_true, h0]
    refine ⟨eta_form h.1, isFormL_etaL ks cs (j + 1) v h.2 (fun i => ?_)⟩
    have := hv (i + 1)
    rw [List.getD_cons_succ] at this
    rw [← this]
    congr 1
    omega
theorem form_etaT {ty : Ty} {v : V} (h : isFormT ty v = true) : isFormT ty (etaT ty v) = true := by
  obtain ⟨size, agg, bytes, kinds, d, eq⟩ := ty
  cases agg with
  | true =>
    cases v <;> simp [isFormT] at h
    exact isFormL_etaL kinds _ 0 _ h (fun i => by simp [V.cell, V.cells])
  | false =>
    match kinds, h with
    | [k], h => exact eta_form h
    | [], h => simp [isFormT] at h
    | _ :: _ :: _, h => simp [isFormT] at h
theorem flatten_len : ∀ (css : List (List Value)) (n : Nat), (∀ cs ∈ css, cs.length = n) → css.flatten.length = css.length * n
  | [], _, _ => by simp
  | cs :: css, n, h => by
    rw [List.flatten_cons, List.length_append, flatten_len css n (fun x hx => h x (by simp [hx])), h cs (by simp), List.length_cons, Nat.succ_mul]
    omega
theorem flatten_set : ∀ (css : List (List Value)) (n i : Nat) (ys : List Value), (∀ cs ∈ css, cs.length = n) → i < css.length →
    (css.set i ys).flatten = css.flatten.take (i * n) ++ ys ++ css.flatten.drop (i * n + n)
  | [], _, _, _, _, hi => by simp at hi
  | cs :: css, n, 0, ys, h, _ => by
    have hc := h cs (by simp)
    simp [List.drop_append, hc]
  | cs :: css, n, i + 1, ys, h, hi => by
    have hc := h cs (by simp)
    have ih := flatten_set css n i ys (fun x hx => h x (by simp [hx])) (by simpa using hi)
    have e1 : List.take ((i + 1) * n) (cs ++ css.flatten) = cs ++ css.flatten.take (i * n) := by
      rw [List.take_append, List.take_of_length_le (l := cs) (by rw [hc, Nat.succ_mul]; omega), hc, show (i + 1) * n - n = i * n from by rw [Nat.succ_mul]; omega]
    have e2 : List.drop ((i + 1) * n + n) (cs ++ css.flatten) = css.flatten.drop (i * n + n) := by
      rw [List.drop_append, List.drop_of_length_le (l := cs) (by rw [hc, Nat.succ_mul]; omega), hc, show (i + 1) * n + n - n = i * n + n from by rw [Nat.succ_mul]; omega, List.nil_append]
    rw [List.set_cons_succ, List.flatten_cons, ih, List.flatten_cons, e1, e2]
    simp only [List.append_assoc]
/-- The elements of a new row, with their cells. -/
structure Elems (T : TypeId → Ty) (w : World) (O : Nat → Prop) (t : TypeId) (vs : List V) (css : List (List Value)) : Prop where
  len : css.length = vs.length
  size : ∀ cs ∈ css, cs.length = (T t).size
  rep : ∀ (n : Nat) (v : V) (cs : List Value), vs[n]? = some v → css[n]? = some cs → (isFormT (T t) v = true ∧ etaT (T t) v = v) ∧ Rep T w O v noR (mkVal (T t).agg cs)
theorem Elems.seq {T : TypeId → Ty} {O : Nat → Prop} {t b off : Nat} {vs : List V} {css : List (List Value)} (e : Elems T w O t vs css) (hl : Lies w b off css.flatten) : RepSeq T w O vs t b off :=
  RepSeq.flat vs off css e.len e.size e.rep hl
theorem Elems.kept {T : TypeId → Ty} {w' : World} {O O' : Nat → Prop} {t : Nat} {vs : List V} {css : List (List Value)} (hk : Kept w w' O O') (e : Elems T w O t vs css) : Elems T w' O' t vs css :=
  ⟨e.len, e.size, fun n v cs h1 h2 => ⟨(e.rep n v cs h1 h2).1, Rep.kept hk _ _ _ _ (fun _ _ h => h) (e.rep n v cs h1 h2).2⟩⟩
theorem Elems.set {T : TypeId → Ty} {O : Nat → Prop} {t i : Nat} {vs : List V} {css : List (List Value)} {v : V} {ys : List Value} (e : Elems T w O t vs css) (hy : ys.length = (T t).size) (hf : isFormT (T t) v = true ∧ etaT (T t) v = v) (hr : Rep T w O v noR (mkVal (T t).agg ys)) : Elems T w O t (vs.set i v) (css.set i ys) := by
  refine ⟨by simp [e.len], fun cs hc => ?_, fun n u cs h1 h2 => ?_⟩
  · rcases List.mem_or_eq_of_mem_set hc with h | h
    · exact e.size cs h
    · rw [h]; exact hy
  · rw [List.getElem?_set] at h1 h2
    by_cases hn : i = n
    · subst hn
      rw [if_pos rfl] at h1 h2
      split at h1
      · split at h2
        · simp at h1 h2; subst h1 h2; exact ⟨hf, hr⟩
        · cases h2
      · cases h1
    · rw [if_neg hn] at h1 h2
      exact e.rep n u cs h1 h2
theorem Elems.append {T : TypeId → Ty} {O : Nat → Prop} {t : Nat} {vs us : List V} {css dss : List (List Value)} (e : Elems T w O t vs css) (f : Elems T w O t us dss) : Elems T w O t (vs ++ us) (css ++ dss) := by
  refine ⟨by simp [e.len, f.len], fun cs hc => ?_, fun n u cs h1 h2 => ?_⟩
  · rcases List.mem_append.1 hc with h | h
    · exact e.size cs h
    · exact f.size cs h
  · by_cases hn : n < vs.length
    · rw [List.getElem?_append_left hn] at h1
      rw [List.getElem?_append_left (by rw [e.len]; exact hn)] at h2
      exact e.rep n u cs h1 h2
    · rw [List.getElem?_append_right (by omega)] at h1
      rw [List.getElem?_append_right (by rw [e.len]; omega), e.len] at h2
      exact f.rep _ u cs h1 h2
/-- The cells of a row that lies in memory. -/
theorem RepSeq.elems {T : TypeId → Ty} {O : Nat → Prop} {t b : Nat} : ∀ {vs : List V} {off : Nat}, RepSeq T w O vs t b off → ∃ css, Elems T w O t vs css ∧ Lies w b off css.flatten
  | [], _, _ => ⟨[], ⟨rfl, by simp, by simp⟩, by intro j u hj; simp at hj⟩
  | v :: vs, off, ⟨h1, ⟨cs, h2, h3, h4⟩, h5⟩ => by
    obtain ⟨css, e, hl⟩ := RepSeq.elems h5
    refine ⟨cs :: css, ⟨by simp [e.len], fun x hx => ?_, fun n u x hu hx => ?_⟩, fun j u hj => ?_⟩
    · rcases List.mem_cons.1 hx with rfl | hx
      · exact h2
      · exact e.size x hx
    · cases n with
      | zero => simp at hu hx; subst hu hx; exact ⟨h1, h4⟩
      | succ n => exact e.rep n u x (by simpa using hu) (by simpa using hx)
    · rw [List.flatten_cons] at hj
      by_cases hjc : j < cs.length
      · rw [List.getElem?_append_left hjc] at hj; exact h3 j u hj
      · rw [List.getElem?_append_right (by omega)] at hj
        have := hl _ u hj
        rwa [show off + (T t).size + (j - cs.length) = off + j from by omega] at this
theorem mkVal_cells {ty : Ty} {t : TypeId} (row : Row P t ty) {T : TypeId → Ty} {O : Nat → Prop} {R : V → Value → Prop} {v : V} {x : Value} (hf : isFormT ty v = true) (hr : Rep T w O v R x) (hR : ∀ r y, R r y → y.oneCell' = true) : mkVal ty.agg x.cells.toList = x ∧ x.cells.toList.length = ty.size := by
  have hl : RepL T w O v.cells R x.cells.toList := by
    refine hr.cells ?_ hR
    have ho := fun ha => row.one ha
    obtain ⟨size, agg, bytes, kinds, d, eq⟩ := ty
    cases agg with
    | true => cases v <;> simp [isFormT] at hf; exact .inl rfl
    | false =>
      obtain ⟨_, k, hk⟩ := ho rfl
      simp only at hk
      subst hk
      exact .inr (form_storable hf)
  have h2 := (rep_mkVal row hf hl).2
  refine ⟨?_, h2⟩
  have ho := fun ha => row.one ha
  obtain ⟨size, agg, bytes, kinds, d, eq⟩ := ty
  cases agg with
  | true =>
    cases v <;> simp [isFormT] at hf
    obtain ⟨p, rfl, _⟩ := hr
    rfl
  | false =>
    obtain ⟨h3, k, hk⟩ := ho rfl
    simp only at h3 h2
    rw [h3] at h2
    have : x.cells = #[x] := by
      cases x <;> first | rfl | skip
      simp only at hk
      subst hk
      have := form_storable (k := k) hf
      have := hr.one this hR
      simp [Value.oneCell'] at this
    rw [this]
    rfl
theorem noRef_noR {T : TypeId → Ty} {O : Nat → Prop} {v : V} {x : Value} (hr : Rep T w O v (RefRep T h β) x) (hn : v.noRef = true) : Rep T w O v noR x := hr.noRef hn (fun _ _ h => h.refs)
theorem fillRow_sound (c : Ctx E P Z h view β w s a) {t : TypeId} (row : Row P t (E.ty t)) :
    ∀ (parts : List (Nat × Operand)) (vs vs' : List V) (css : List (List Value)), Elems E.ty w (Own Z h β) t vs css → fillRow (E.ty t) (ev E s) parts vs = some vs' →
    ∃ css', Elems E.ty w (Own Z h β) t vs' css' ∧ Instr.fill (fun i => some (i * (E.ty t).size, (E.ty t).size)) css.flatten.toArray (parts.map fun x => (x.1, a.eval x.2)) = some css'.flatten.toArray
  | [], vs, vs', css, e, hf => by simp [fillRow] at hf; subst hf; exact ⟨css, e, rfl⟩
  | (i, x) :: parts, vs, vs', css, e, hf => by
    unfold fillRow at hf
    split at hf
    · rename_i hc
      rw [Bool.and_eq_true] at hc
      split at hf
      · rename_i hi
        have hi' : i < vs.length := by
          have : decide (i < vs.length) = true := by simpa [Nat.blt_eq] using hi
          simpa using this
        obtain ⟨m1, m2⟩ := mkVal_cells row hc.1 (c.val x) refOne
        have heta := noRef_noR (c.val x) hc.2
        have hrep : Rep E.ty w (Own Z h β) (etaT (E.ty t) (ev E s x)) noR (mkVal (E.ty t).agg (a.eval x).cells.toList) := by rw [m1]; exact heta.etaT hc.1
        have hform : isFormT (E.ty t) (etaT (E.ty t) (ev E s x)) = true := form_etaT hc.1
        have e' := e.set (i := i) m2 ⟨hform, etaT_etaT _ _⟩ hrep
        obtain ⟨css', e2, hfill⟩ := fillRow_sound c row parts _ vs' _ e' hf
        refine ⟨css', e2, ?_⟩
        have hlen := flatten_len css _ e.size
        have hil : i < css.length := by rw [e.len]; exact hi'
        have hb : i * (E.ty t).size + (E.ty t).size ≤ css.flatten.length := by
          rw [hlen, ← Nat.succ_mul]
          exact Nat.mul_le_mul_right _ hil
        have hsz : (a.eval x).cells.size = (E.ty t).size := by simpa using m2
        simp only [List.map_cons, Instr.fill]
        have hcond : ¬ ((decide ((a.eval x).cells.size ≠ (E.ty t).size) || decide (i * (E.ty t).size + (a.eval x).cells.size > css.flatten.toArray.size)) = true) := by
          rw [hsz]; simp at hb ⊢; omega
        rw [if_neg hcond]
        have hset := foldl_set (a.eval x).cells.toList (i * (E.ty t).size) 0 css.flatten.toArray (by rw [Array.length_toList, hsz]; simpa using hb)
        have heq : ((a.eval x).cells.zipIdx.foldl (fun cs (x : Value × Nat) => cs.setIfInBounds (i * (E.ty t).size + x.2) x.1) css.flatten.toArray) = (css.set i (a.eval x).cells.toList).flatten.toArray := by
          apply Array.toList_inj.1
          rw [← Array.foldl_toList, Array.toList_zipIdx, hset, flatten_set css _ i _ e.size hil]
          simp [hsz]
        rw [heq]
        exact hfill
      · cases hf
    · cases hf
end
end Go.AH
