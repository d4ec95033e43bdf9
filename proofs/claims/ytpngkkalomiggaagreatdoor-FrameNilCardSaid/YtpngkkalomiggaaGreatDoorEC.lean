/- A part of the proof: AHK, AHL, AHY, AHD, AHE, AHG, AHI, AHJ, AHZ. -/
import Derived.Test.YtpngkkalomiggaaGreatDoorEB
set_option linter.all false
namespace Go.AH
open Go Go.RowKit

theorem zero_rows (z : Array Value) (hz : 0 < z.size) : ∀ n : Nat, ((Array.range (n * z.size)).map (z[· % z.size]!)) = (List.replicate n z.toList).flatten.toArray := by
  intro n
  apply Array.toList_inj.1
  simp only [Array.toList_map, Array.toList_range]
  induction n with
  | zero => simp
  | succ n ih =>
    rw [Nat.succ_mul, List.range_add, List.map_append, ih, List.replicate_succ', List.flatten_append]
    congr 1
    simp only [List.map_map, List.flatten_cons, List.flatten_nil, List.append_nil]
    apply List.ext_getElem?
    intro i
    by_cases hi : i < z.size
    · rw [List.getElem?_map, List.getElem?_range hi]
      simp [Nat.add_mod, Nat.mod_eq_of_lt hi, hi]
    · rw [List.getElem?_eq_none (by simp; omega), List.getElem?_eq_none (by simp; omega)]

section
variable {E : Env} {P : Program} {Z : Nat → Prop} {h view : Nat → Ob} {β : Nat → Loc} {w : World} {s : Nat → V} {a : Act} {fr : Nat} {o : Oper} {r : Rs}

theorem Elems.zeros {T : TypeId → Ty} {O : Nat → Prop} {t : TypeId} (row : Row P t (T t)) {z : Value} (hz : (zeroValue t).run P w = .ok z w) (n : Nat) : Elems T w O t (List.replicate n (zeroT (T t))) (List.replicate n z.cells.toList) ∧ z.cells.size = (T t).size := by
  obtain ⟨z', hz', h1, h2, h3⟩ := row.rep_zero (T := T) (w := w) (O := O) w noR
  rw [hz] at hz'
  simp only [Result.ok.injEq, and_true] at hz'
  subst hz'
  obtain ⟨f1, f2⟩ := row.form_zero
  refine ⟨⟨by simp, fun cs hc => ?_, fun k v cs hv hc => ?_⟩, h3⟩
  · rw [(List.mem_replicate.1 hc).2]; simpa using h3
  · have hv' := (List.mem_replicate.1 (List.mem_of_getElem? hv)).2
    have hc' := (List.mem_replicate.1 (List.mem_of_getElem? hc)).2
    subst hv' hc'
    exact ⟨⟨f1, f2⟩, (rep_mkVal row f1 h2).1⟩
theorem maxLen_big : lim ≤ maxLen := by unfold lim maxLen; omega
/-- A new row, in a block of its own. -/
theorem cx_newRow {T : TypeId → Ty} {G : Nat → V} (cx : Cx T G Z h β w) (hfr : h fr = .dead) {t : TypeId} (ht : (T t).ok = true) {vs : List V} {css : List (List Value)} (e : Elems T w (Own Z h β) t vs css) (hm : vs.length ≤ lim) :
    Cx T G Z (updL h [(fr, .row false 0 t vs)]) (upd β fr ⟨w.heap.size, vs.length, false, 0⟩) (w.alloc (.cells css.flatten.toArray t)) ∧ Stp h β w (updL h [(fr, .row false 0 t vs)]) (upd β fr ⟨w.heap.size, vs.length, false, 0⟩) (w.alloc (.cells css.flatten.toArray t)) ∧
    RefRep T (updL h [(fr, .row false 0 t vs)]) (upd β fr ⟨w.heap.size, vs.length, false, 0⟩) (.full t fr 0 vs.length) (.slice (some ⟨w.heap.size, 0, none⟩) vs.length vs.length) := by
  obtain ⟨c1, c2⟩ := cx_alloc cx hfr (.cells css.flatten.toArray t) (.row false 0 t vs) vs.length rfl (fun O' R' hk hR => by
    refine ⟨ht, .inr ⟨rfl, css.flatten.toArray, heap_alloc_new' w _, Nat.le_refl _, Nat.le_trans hm maxLen_big, ?_, ?_⟩⟩
    · simp only [List.size_toArray]
      rw [flatten_len css _ e.size, e.len, Nat.zero_add]
    · refine (e.kept hk).seq ?_
      have := Lies.of_block (heap_alloc_new' w (.cells css.flatten.toArray t))
      simpa using this)
  refine ⟨c1, c2, ⟨false, 0, t, vs, by rw [updL, updL, upd_same], Nat.le_refl _, ⟨_, _, rfl, Nat.le_refl _, fun _ => ⟨_, _, rfl⟩⟩, fun _ => ⟨rfl, rfl, by rw [upd_same]; rfl⟩⟩⟩
theorem op_nil (c : Ctx E P Z h view β w s a) (hfr : h fr = .dead) (ho : o.op = .assign (.const (.slice none 0 0))) (he : (evOp E view s fr o).eval = some r) : Does E P Z h β w a fr o r := by
  simp only [evOp, ho] at he
  split at he
  · rename_i e hd
    split at he
    · rename_i hok
      simp only [newRow, Tr.eval, Option.some.injEq] at he
      obtain ⟨c1, c2⟩ := c.cx.update (w' := w) fr (.row false 0 e []) ⟨0, 0, true, 0⟩ rfl rfl rfl (Nat.le_refl _) (fun _ _ _ => rfl) rfl (fun hn => by cases hn) (by rw [hfr]; exact trivial) (fun _ _ => ⟨hok, .inl ⟨rfl, rfl, rfl⟩⟩)
      refine ⟨_, _, .slice none 0 0, w, _, he.symm, .inl (by simp [execOp, ho, Act.eval]), c1, c2, ⟨false, 0, e, [], by rw [updL, updL, upd_same], Nat.le_refl _, ⟨_, _, rfl, Nat.le_refl _, fun h => absurd rfl h⟩, fun _ => ⟨rfl, rfl, by rw [upd_same]; rfl⟩⟩, touch_upd (.inr ⟨Nat.le_refl _, by omega⟩)⟩
    · simp [Tr.eval] at he
  · simp [Tr.eval] at he
theorem op_buildSlice (c : Ctx E P Z h view β w s a) (hfr : h fr = .dead) {t : TypeId} {len : Nat} {parts : Array (Nat × Operand)} (ho : o.op = .buildSlice t len parts) (he : (evOp E view s fr o).eval = some r) : Does E P Z h β w a fr o r := by
  simp only [evOp, ho] at he
  split at he
  · rename_i e hd
    split at he
    · rename_i hc
      rw [Bool.and_eq_true] at hc
      have hlen := Nat.le_of_ble_eq_true hc.1
      have row := c.ty.row hc.2
      obtain ⟨hu, _⟩ := (c.ty.row (ok_of hd (by simp))).slice hd
      cases hq : fillRow (E.ty e) (ev E s) parts.toList (List.replicate len (zeroT (E.ty e))) with
      | none =>
        rw [hq] at he
        simp only at he
        cases hq2 : fillAgg ((List.range len).map fun i => (i * (E.ty e).size, (E.ty e).size, (E.ty e).agg)) (ev E s) parts.toList (List.replicate len (zeroT (E.ty e)).cells).flatten with
        | none => rw [hq2] at he; simp [optTr, Tr.eval] at he
        | some cs =>
          rw [hq2] at he
          simp only [optTr, Tr.eval, Option.some.injEq] at he
          obtain ⟨z, hz, _, hzl, hzs⟩ := row.rep_zero (T := E.ty) (w := w) (O := Own Z h β) w (RefRep E.ty h β)
          have hrl : ∀ n : Nat, RepL E.ty w (Own Z h β) (List.replicate n (zeroT (E.ty e)).cells).flatten (RefRep E.ty h β) (List.replicate n z.cells.toList).flatten := by
            intro n
            induction n with
            | zero => exact rfl
            | succ n ih =>
              rw [List.replicate_succ, List.replicate_succ, List.flatten_cons, List.flatten_cons]
              exact hzl.append ih
          obtain ⟨cells', hfill, hrep⟩ := fill_sound c (place := fun i => some (i * (E.ty e).size, (E.ty e).size)) (fun i off n ag hi => by
            rw [List.getElem?_map] at hi
            cases hr : (List.range len)[i]? with
            | none => rw [hr] at hi; cases hi
            | some j =>
              rw [hr] at hi
              have hj : j = i := by
                rw [List.getElem?_eq_some_iff] at hr
                obtain ⟨h1, h2⟩ := hr
                simpa using h2.symm
              subst hj
              simp only [Option.map_some, Option.some.injEq, Prod.mk.injEq] at hi
              obtain ⟨rfl, rfl, _⟩ := hi
              rfl) parts.toList _ cs (List.replicate len z.cells.toList).flatten.toArray (by simpa using hrl len) hq2
          obtain ⟨c1, c2⟩ := cx_alloc c.cx hfr (.cells cells' e) (.box false cs) 0 rfl (fun O' R' hk hR => ⟨rfl, _, e, heap_alloc_new' w _, (RepL.kept hk _ _ _ _ hR hrep).takeAll⟩)
          refine ⟨_, _, .slice (some ⟨w.heap.size, 0, none⟩) len len, w.alloc (.cells cells' e), _, he.symm, .inl ?_, c1, c2, ⟨⟨false, _, by rw [updL, updL, upd_same]⟩, len, Nat.le_refl _, by rw [upd_same]⟩, touch_upd (.inr ⟨Nat.le_refl _, by omega⟩)⟩
          have hpos := row.pos
          have hbig : ¬ (len * (E.ty e).size > 2 ^ 24) := by
            have := row.small
            have : len * (E.ty e).size ≤ 65536 * 256 := Nat.mul_le_mul hlen this
            omega
          have hcells : ((Array.range (len * (E.ty e).size)).map (z.cells[· % z.cells.size]!)) = (List.replicate len z.cells.toList).flatten.toArray := by
            rw [← hzs]
            exact zero_rows z.cells (by rw [hzs]; exact hpos) len
          have hfill2 : Instr.fill (fun i => some (i * (E.ty e).size, (E.ty e).size)) (List.replicate len z.cells.toList).flatten.toArray (parts.map fun (i, x) => (i, a.eval x)).toList = some cells' := by simpa using hfill
          simp only [execOp, ho, Instr.buildSlice, Sem.run_bind, run_underlying hu, Result.andThen_ok, row.size]
          rw [if_neg hbig]
          by_cases h0 : len * (E.ty e).size = 0
          · have hl0 : len = 0 := by
              rcases Nat.mul_eq_zero.1 h0 with h | h
              · exact h
              · omega
            have hc0 : ((Array.range (len * (E.ty e).size)).map ((#[] : Array Value)[· % (#[] : Array Value).size]!)) = (List.replicate len z.cells.toList).flatten.toArray := by
              rw [h0, hl0]; simp
            simp only [if_pos h0, Sem.run_bind, Result.andThen_ok, Sem.run_pure, hc0, hfill2]
            rfl
          · simp only [if_neg h0, Sem.run_bind, hz, Result.andThen_ok, Sem.run_pure, hcells, hfill2]
            rfl
      | some vs =>
        rw [hq] at he
        simp only [newRow, Tr.eval, Option.some.injEq] at he
        obtain ⟨z, hz, _⟩ := row.rep_zero (T := E.ty) (w := w) (O := Own Z h β) w noR
        obtain ⟨e0, hzs⟩ := Elems.zeros (w := w) (O := Own Z h β) row hz len
        obtain ⟨css, e1, hfill⟩ := fillRow_sound c row parts.toList _ vs _ e0 hq
        have hvl : vs.length = len := by
          have : ∀ (ps : List (Nat × Operand)) (us us' : List V), fillRow (E.ty e) (ev E s) ps us = some us' → us'.length = us.length := by
            intro ps
            induction ps with
            | nil => intro us us' h; simp [fillRow] at h; rw [h]
            | cons p ps ih =>
              intro us us' h
              obtain ⟨i, x⟩ := p
              unfold fillRow at h
              split at h
              · split at h
                · rw [ih _ _ h]; simp
                · cases h
              · cases h
          rw [this _ _ _ hq]; simp
        obtain ⟨c1, c2, c3⟩ := cx_newRow c.cx hfr hc.2 e1 (by rw [hvl]; unfold lim; omega)
        refine ⟨_, _, .slice (some ⟨w.heap.size, 0, none⟩) vs.length vs.length, w.alloc (.cells css.flatten.toArray e), _, he.symm, .inl ?_, c1, c2, c3, touch_upd (.inr ⟨Nat.le_refl _, by omega⟩)⟩
        have hpos := row.pos
        have hbig : ¬ (len * (E.ty e).size > 2 ^ 24) := by
          have := row.small
          have : len * (E.ty e).size ≤ 65536 * 256 := Nat.mul_le_mul hlen this
          omega
        have hcells : ((Array.range (len * (E.ty e).size)).map (z.cells[· % z.cells.size]!)) = (List.replicate len z.cells.toList).flatten.toArray := by
          rw [← hzs]
          exact zero_rows z.cells (by rw [hzs]; exact hpos) len
        have hfill2 : Instr.fill (fun i => some (i * (E.ty e).size, (E.ty e).size)) (List.replicate len z.cells.toList).flatten.toArray (parts.map fun (i, x) => (i, a.eval x)).toList = some css.flatten.toArray := by simpa using hfill
        rw [hvl]
        simp only [execOp, ho, Instr.buildSlice, Sem.run_bind, run_underlying hu, Result.andThen_ok, row.size]
        rw [if_neg hbig]
        by_cases h0 : len * (E.ty e).size = 0
        · have hl0 : len = 0 := by
            rcases Nat.mul_eq_zero.1 h0 with h | h
            · exact h
            · omega
          have hc0 : ((Array.range (len * (E.ty e).size)).map ((#[] : Array Value)[· % (#[] : Array Value).size]!)) = (List.replicate len z.cells.toList).flatten.toArray := by
            rw [h0, hl0]; simp
          simp only [if_pos h0, Sem.run_bind, Result.andThen_ok, Sem.run_pure, hc0, hfill2]
          rfl
        · simp only [if_neg h0, Sem.run_bind, hz, Result.andThen_ok, Sem.run_pure, hcells, hfill2]
          rfl
    · simp [Tr.eval] at he
  · simp [Tr.eval] at he
theorem op_makeSlice (c : Ctx E P Z h view β w s a) (hfr : h fr = .dead) {t : TypeId} {x y : Operand} (ho : o.op = .makeSlice t x y) (he : (evOp E view s fr o).eval = some r) : Does E P Z h β w a fr o r := by
  simp only [evOp, ho] at he
  split at he
  · rename_i e n m hd hn hm
    obtain ⟨h1, h2⟩ := eval_test he
    simp only [Bool.and_eq_true, decide_eq_true_eq] at h1
    obtain ⟨⟨⟨hok, h3⟩, rfl⟩, h4⟩ := h1
    have row := c.ty.row hok
    obtain ⟨hu, _⟩ := (c.ty.row (ok_of hd (by simp))).slice hd
    have hx := c.val x
    have hy := c.val y
    rw [hn] at hx
    rw [hm] at hy
    have hx' : a.eval x = .int .i64 n := hx
    have hy' : a.eval y = .int .i64 n := hy
    obtain ⟨z, hz, _⟩ := row.rep_zero (T := E.ty) (w := w) (O := Own Z h β) w noR
    obtain ⟨e0, hzs⟩ := Elems.zeros (w := w) (O := Own Z h β) row hz n.toNat
    have hlen : (List.replicate n.toNat (zeroT (E.ty e))).length = n.toNat := by simp
    have hrun : (execOp a.eval o).run P w = .ok (.value (.slice (some ⟨w.heap.size, 0, none⟩) n.toNat n.toNat)) (w.alloc (.cells (List.replicate n.toNat z.cells.toList).flatten.toArray e)) := by
      have hw : IntKind.i64.wrap n = n := by
        unfold lim at h4
        simp [IntKind.wrap, IntKind.bits, IntKind.signed]
        omega
      obtain ⟨it, zt, hit, hs1, hs2, _⟩ := row.info
      have hby := row.bytes
      have hlarge : ¬ ((it.bytes : Int) * n > 2 ^ 48) := by
        rw [hs2]
        unfold lim at h4
        have : ((E.ty e).bytes : Int) * n ≤ 32768 * 4294967296 := Int.mul_le_mul (by omega) (by omega) h3 (by omega)
        omega
      have hpos := row.pos
      have hcells : ((Array.range (n.toNat * (E.ty e).size)).map (z.cells[· % z.cells.size]!)) = (List.replicate n.toNat z.cells.toList).flatten.toArray := by
        rw [← hzs]
        exact zero_rows z.cells (by rw [hzs]; exact hpos) _
      simp only [execOp, ho, hx', hy', Instr.makeSlice, Sem.run_bind, run_underlying hu, Result.andThen_ok, asInt, asIntOf, Sem.run_pure, typeInfo, run_program, hit, hw]
      rw [if_neg (by simp; omega)]
      simp only [Sem.run_bind, run_askRoom, Result.andThen_ok, row.size]
      by_cases h0 : n.toNat * (E.ty e).size = 0
      · have hl0 : n.toNat = 0 := by
          rcases Nat.mul_eq_zero.1 h0 with h | h
          · exact h
          · omega
        have hc0 : ((Array.range (n.toNat * (E.ty e).size)).map ((#[] : Array Value)[· % (#[] : Array Value).size]!)) = (List.replicate n.toNat z.cells.toList).flatten.toArray := by
          rw [h0, hl0]; simp
        simp only [if_pos h0, Sem.run_bind, Result.andThen_ok, Sem.run_pure, hc0]
        rfl
      · simp only [if_neg h0, Sem.run_bind, hz, Result.andThen_ok, Sem.run_pure, hcells]
        rfl
    split at h2
    · simp only [Tr.eval, Option.some.injEq] at h2
      obtain ⟨z', hz', _, hzl, _⟩ := row.rep_zeroB (T := E.ty) (w := w) (O := Own Z h β) w (RefRep E.ty h β)
      have hzz : z' = z := by
        rw [hz] at hz'
        simp only [Result.ok.injEq, and_true] at hz'
        exact hz'.symm
      subst hzz
      have hrl : ∀ k : Nat, RepL E.ty w (Own Z h β) (List.replicate k (zeroB (E.ty e)).cells).flatten (RefRep E.ty h β) (List.replicate k z'.cells.toList).flatten := by
        intro k
        induction k with
        | zero => exact rfl
        | succ k ih =>
          rw [List.replicate_succ, List.replicate_succ, List.flatten_cons, List.flatten_cons]
          exact hzl.append ih
      obtain ⟨c1, c2⟩ := cx_alloc c.cx hfr (.cells (List.replicate n.toNat z'.cells.toList).flatten.toArray e) (.box false (List.replicate n.toNat (zeroB (E.ty e)).cells).flatten) 0 rfl (fun O' R' hk hR => ⟨rfl, _, e, heap_alloc_new' w _, (RepL.kept hk _ _ _ _ hR (by simpa using hrl n.toNat)).takeAll⟩)
      exact ⟨_, _, .slice (some ⟨w.heap.size, 0, none⟩) n.toNat n.toNat, _, _, h2.symm, .inl hrun, c1, c2, ⟨⟨false, _, by rw [updL, updL, upd_same]⟩, n.toNat, Nat.le_refl _, by rw [upd_same]⟩, touch_upd (.inr ⟨Nat.le_refl _, by omega⟩)⟩
    · simp only [newRow, Tr.eval, Option.some.injEq] at h2
      obtain ⟨c1, c2, c3⟩ := cx_newRow c.cx hfr hok e0 (by rw [hlen]; unfold lim at h4 ⊢; omega)
      refine ⟨_, _, .slice (some ⟨w.heap.size, 0, none⟩) (List.replicate n.toNat (zeroT (E.ty e))).length (List.replicate n.toNat (zeroT (E.ty e))).length, w.alloc (.cells (List.replicate n.toNat z.cells.toList).flatten.toArray e), _, h2.symm, .inl ?_, c1, c2, c3, touch_upd (.inr ⟨Nat.le_refl _, by omega⟩)⟩
      rw [hlen]
      exact hrun
  · simp [Tr.eval] at he

/- Stores. -/
theorem RepL.set {T : TypeId → Ty} {O : Nat → Prop} {R : V → Value → Prop} {cs us : List V} {l m : List Value} (j : Nat) (h1 : RepL T w O cs R l) (h2 : RepL T w O us R m) : RepL T w O (cs.take j ++ us ++ cs.drop (j + us.length)) R (l.take j ++ m ++ l.drop (j + m.length)) := by
  rw [h2.length]
  exact ((h1.take j).append h2).append (h1.drop _)
theorem RepL.oneAll {T : TypeId → Ty} {O : Nat → Prop} {R : V → Value → Prop} (hR : ∀ r y, R r y → y.oneCell' = true) : ∀ {cs : List V} {l : List Value}, RepL T w O cs R l → cs.all V.storable = true → ∀ u ∈ l, u.oneCell' = true
  | [], l, h, _, u, hu => by rw [show l = [] from h] at hu; cases hu
  | c :: cs, l, h, hs, u, hu => by
    obtain ⟨x, r, rfl, h1, h2⟩ := h
    rw [List.all_cons, Bool.and_eq_true] at hs
    rcases List.mem_cons.1 hu with rfl | hu
    · exact h1.one hs.1 hR
    · exact RepL.oneAll hR h2 hs.2 u hu
theorem op_store_box (c : Ctx E P Z h view β w s a) {t : TypeId} {x y : Operand} {i j : Nat} (hi : ev E s x = .box i j) (ho : o.op = .store t x y) (he : (evOp E view s fr o).eval = some r) : Does E P Z h β w a fr o r := by
  simp only [evOp, ho, hi] at he
  split at he
  · rename_i cs hq
    split at he
    · rename_i hc
      simp only [Bool.and_eq_true] at hc
      obtain ⟨⟨⟨hok, h1⟩, h2⟩, h3⟩ := hc
      simp only [Tr.eval, Option.some.injEq] at he
      have row := c.ty.row hok
      have hsz := nat_of_beq h1
      have hle := Nat.le_of_ble_eq_true h2
      have hx := c.val x
      rw [hi] at hx
      obtain ⟨_, hx⟩ := hx
      have hib := c.sees.at_ hq (by simp)
      have hob := c.cx.ob i
      rw [hib] at hob
      obtain ⟨hn, arr, e, hb, hrep⟩ := hob
      have hcells := (c.val y).cells (by
        cases hv : ev E s y with
        | agg cs => exact .inl rfl
        | _ =>
          right
          rw [hv] at h3
          simpa [V.cells] using h3) refOne
      have hlen := hcells.length
      have hl2 := hrep.length
      have hone := RepL.oneAll refOne hcells h3
      have hysz : (a.eval y).cells.size = (E.ty t).size := by rw [← hsz, ← hlen]; simp
      have hst := run_storeCells_at P (β i).b j e (a.eval y).cells.toList 0 arr w hb (by simp at hl2 hlen ⊢; omega) hone
      simp only [Nat.add_zero] at hst
      obtain ⟨W', hW'⟩ : ∃ W', W' = w.setRow (β i).b (arr.toList.take j ++ (a.eval y).cells.toList ++ arr.toList.drop (j + (a.eval y).cells.toList.length)).toArray := ⟨_, rfl⟩
      rw [← hW'] at hst
      have hmine : Mine h β i := ⟨by rw [hib]; rfl, hn⟩
      obtain ⟨c1, c2⟩ := c.cx.update (w' := W') i (.box false (cs.take j ++ (ev E s y).cells ++ cs.drop (j + (ev E s y).cells.length))) (β i) (by rw [hW']; rfl) (by rw [hW']; rfl) (by rw [hW']; rfl) (by rw [hW']; simp) (fun b hb2 hne => by rw [hW']; exact setRow_other _ _ _ _ (Ne.symm (hne hmine))) rfl (fun _ => .inl ⟨hmine, rfl⟩)
        (by rw [hib]; exact ⟨⟨_, _, rfl⟩, rfl⟩) (fun hk hR => by
          refine ⟨hn, _, e, by rw [hW']; exact setRow_heap _ _ _ _ _ _ hb, ?_⟩
          have hset := hrep.set j hcells
          have hul : (a.eval y).cells.toList.length = (ev E s y).cells.length := hlen
          have hal : (arr.toList.take cs.length).length = cs.length := hl2
          rw [List.length_take] at hal
          have e1 : (cs.take j ++ (ev E s y).cells ++ cs.drop (j + (ev E s y).cells.length)).length = cs.length := by simp; omega
          have e2 : (arr.toList.take j ++ (a.eval y).cells.toList ++ arr.toList.drop (j + (a.eval y).cells.toList.length)).take cs.length = (arr.toList.take cs.length).take j ++ (a.eval y).cells.toList ++ (arr.toList.take cs.length).drop (j + (a.eval y).cells.toList.length) := by
            have hjl : (arr.toList.take j).length = j := by rw [List.length_take]; omega
            rw [List.take_append, List.take_append, List.length_append, hjl, List.take_take, List.take_take, List.drop_take, Nat.min_eq_right (by omega : j ≤ cs.length), Nat.min_eq_left (by omega : j ≤ cs.length), List.take_of_length_le (by omega : (a.eval y).cells.toList.length ≤ cs.length - j)]
          rw [e1, e2]
          exact RepL.kept hk _ _ _ _ hR hset)
      refine ⟨_, _, undef, W', _, he.symm, .inr ⟨?_, rfl⟩, c1, c2, trivial, touch_upd (.inl (by rw [hib]; rfl))⟩
      simp only [execOp, ho, hx, Instr.storeAt, Instr.sureAddr, storeVar, Sem.run_bind, Sem.run_pure, Result.andThen_ok, row.size]
      rw [if_neg (by rw [hysz]; exact fun h => h rfl), hst]
      rfl
    · simp [Tr.eval] at he
  · simp [Tr.eval] at he

/-- One element of a row, at its place, with another one in it. -/
theorem RepSeq.set {T : TypeId → Ty} {w' : World} {O O' : Nat → Prop} {t b : Nat} (hk : Kept w w' O O') {v : V} {cs : List Value} : ∀ {vs : List V} {off k : Nat}, RepSeq T w O vs t b off → k < vs.length →
    (∀ j, (j < k * (T t).size ∨ k * (T t).size + (T t).size ≤ j) → w'.cell? ⟨b, off + j, none⟩ = w.cell? ⟨b, off + j, none⟩) →
    (isFormT (T t) v = true ∧ etaT (T t) v = v) → cs.length = (T t).size → Lies w' b (off + k * (T t).size) cs → Rep T w' O' v noR (mkVal (T t).agg cs) → RepSeq T w' O' (vs.set k v) t b off
  | [], _, _, _, hk2, _, _, _, _, _ => by simp at hk2
  | u :: vs, off, 0, ⟨h1, ⟨cs0, h2, h3, h4⟩, h5⟩, _, hs, hf, hl, hlie, hr => by
    rw [List.set_cons_zero]
    refine ⟨hf, ⟨cs, hl, by simpa using hlie, hr⟩, ?_⟩
    have same : ∀ (vs : List V) (off2 : Nat), off + (T t).size ≤ off2 → RepSeq T w O vs t b off2 → RepSeq T w' O' vs t b off2 := by
      intro vs
      induction vs with
      | nil => intro _ _ _; trivial
      | cons u vs ih =>
        intro off2 hle ⟨g1, ⟨c0, g2, g3, g4⟩, g5⟩
        refine ⟨g1, ⟨c0, g2, fun j x hj => ?_, Rep.kept hk _ _ _ _ (fun _ _ h => h) g4⟩, ih _ (by omega) g5⟩
        have := hs (off2 + j - off) (.inr (by omega))
        rw [show off + (off2 + j - off) = off2 + j from by omega] at this
        rw [this]
        exact g3 j x hj
    exact same vs _ (Nat.le_refl _) h5
  | u :: vs, off, k + 1, ⟨h1, ⟨cs0, h2, h3, h4⟩, h5⟩, hk2, hs, hf, hl, hlie, hr => by
    rw [List.set_cons_succ]
    refine ⟨h1, ⟨cs0, h2, fun j x hj => ?_, Rep.kept hk _ _ _ _ (fun _ _ h => h) h4⟩, ?_⟩
    · have hj2 := (List.getElem?_eq_some_iff.1 hj).1
      rw [hs j (.inl (by rw [Nat.succ_mul]; omega))]
      exact h3 j x hj
    · refine RepSeq.set hk h5 (by simpa using hk2) (fun j hj => ?_) hf hl (by rw [Nat.succ_mul] at hlie; rw [show off + (T t).size + k * (T t).size = off + (k * (T t).size + (T t).size) from by omega]; exact hlie) hr
      have := hs ((T t).size + j) (by
        rcases hj with hj | hj
        · left; rw [Nat.succ_mul]; omega
        · right; rw [Nat.succ_mul]; omega)
      rwa [← Nat.add_assoc] at this
theorem isFormL_append : ∀ {ks ls : List Kd} {as bs : List V}, isFormL ks as = true → isFormL ls bs = true → isFormL (ks ++ ls) (as ++ bs) = true
  | [], _, [], _, _, h => h
  | [], _, _ :: _, _, h, _ => by simp [isFormL] at h
  | _ :: _, _, [], _, h, _ => by simp [isFormL] at h
  | k :: ks, ls, a :: as, bs, h, g => by
    rw [isFormL, Bool.and_eq_true] at h
    simp only [List.cons_append, isFormL, Bool.and_eq_true]
    exact ⟨h.1, isFormL_append h.2 g⟩
theorem isFormL_take : ∀ {ks : List Kd} {as : List V} (n : Nat), isFormL ks as = true → isFormL (ks.take n) (as.take n) = true
  | _, _, 0, _ => by simp [isFormL]
  | [], [], n + 1, _ => rfl
  | [], _ :: _, _, h => by simp [isFormL] at h
  | _ :: _, [], _, h => by simp [isFormL] at h
  | k :: ks, a :: as, n + 1, h => by
    rw [isFormL, Bool.and_eq_true] at h
    simp only [List.take_succ_cons, isFormL, Bool.and_eq_true]
    exact ⟨h.1, isFormL_take n h.2⟩
theorem isFormL_drop : ∀ {ks : List Kd} {as : List V} (n : Nat), isFormL ks as = true → isFormL (ks.drop n) (as.drop n) = true
  | _, _, 0, h => by simpa using h
  | [], [], n + 1, _ => rfl
  | [], _ :: _, _, h => by simp [isFormL] at h
  | _ :: _, [], _, h => by simp [isFormL] at h
  | k :: ks, a :: as, n + 1, h => by
    rw [isFormL, Bool.and_eq_true] at h
    simpa using isFormL_drop n h.2
theorem isFormL_len : ∀ {ks : List Kd} {l : List V}, isFormL ks l = true → l.length = ks.length
  | [], [], _ => rfl
  | [], _ :: _, h => by simp [isFormL] at h
  | _ :: _, [], h => by simp [isFormL] at h
  | _ :: _, _ :: _, h => by rw [isFormL, Bool.and_eq_true] at h; simp [isFormL_len h.2]
theorem etaL_etaL (ks : List Kd) (v : V) : etaL ks 0 (.agg (etaL ks 0 v)) = etaL ks 0 v :=
  etaL_self (etaL_len ks 0 v) (fun i => by simp [V.cell, V.cells]) (fun i k c h1 h2 => by
    rw [etaL_get ks 0 v i k h1] at h2
    simp at h2
    subst h2
    exact eta_eta _ _)

def Stab (ks : List Kd) (cs : List V) : Prop := ∀ (i : Nat) (k : Kd) (c : V), ks[i]? = some k → cs[i]? = some c → eta k c = c
theorem Stab.append {ks ls : List Kd} {as bs : List V} (h : Stab ks as) (g : Stab ls bs) (hl : as.length = ks.length) : Stab (ks ++ ls) (as ++ bs) := by
  intro i k c h1 h2
  by_cases hi : i < ks.length
  · rw [List.getElem?_append_left hi] at h1
    rw [List.getElem?_append_left (by omega)] at h2
    exact h i k c h1 h2
  · rw [List.getElem?_append_right (by omega)] at h1
    rw [List.getElem?_append_right (by omega), hl] at h2
    exact g _ k c h1 h2
theorem Stab.take {ks : List Kd} {as : List V} (n : Nat) (h : Stab ks as) : Stab (ks.take n) (as.take n) := by
  intro i k c h1 h2
  rw [List.getElem?_take] at h1 h2
  split at h1
  · rw [if_pos ‹_›] at h2
    exact h i k c h1 h2
  · cases h1
theorem Stab.drop {ks : List Kd} {as : List V} (n : Nat) (h : Stab ks as) : Stab (ks.drop n) (as.drop n) := by
  intro i k c h1 h2
  rw [List.getElem?_drop] at h1 h2
  exact h _ k c h1 h2
theorem Stab.etaL (ks : List Kd) (v : V) : Stab ks (etaL ks 0 v) := by
  intro i k c h1 h2
  rw [etaL_get ks 0 v i k h1] at h2
  simp at h2
  subst h2
  exact eta_eta _ _
/-- The cells of a value of a form. -/
theorem form_cells {ty : Ty} {t : TypeId} (row : Row P t ty) {v : V} (hf : isFormT ty v = true) (he : etaT ty v = v) : isFormL ty.kinds v.cells = true ∧ Stab ty.kinds v.cells := by
  have ho := fun ha => row.one ha
  obtain ⟨size, agg, bytes, kinds, d, eq⟩ := ty
  cases agg with
  | true =>
    cases v <;> simp [isFormT] at hf
    rename_i cs
    have : AH.etaL kinds 0 (.agg cs) = cs := by simpa [etaT] using he
    refine ⟨hf, ?_⟩
    show Stab kinds cs
    rw [← this]
    exact Stab.etaL _ _
  | false =>
    obtain ⟨_, k, hk⟩ := ho rfl
    simp only at hk
    subst hk
    have hv : v.cells = [v] := by
      cases v <;> first | rfl | (cases k <;> simp [isFormT, isForm] at hf)
    rw [hv]
    refine ⟨by simpa [isFormL, isFormT] using hf, fun i k' c h1 h2 => ?_⟩
    cases i with
    | zero => simp at h1 h2; subst h1 h2; exact he
    | succ i => simp at h1
theorem pack_form {T : TypeId → Ty} {O : Nat → Prop} {R : V → Value → Prop} {ty : Ty} {t : TypeId} (row : Row P t ty) {L : List V} {cs : List Value} (hf : isFormL ty.kinds L = true) (hs : Stab ty.kinds L) (hr : RepL T w O L R cs) :
    isFormT ty (pack ty.agg L) = true ∧ etaT ty (pack ty.agg L) = pack ty.agg L ∧ Rep T w O (pack ty.agg L) R (mkVal ty.agg cs) ∧ cs.length = ty.size := by
  have ho := fun ha => row.one ha
  have hl := row.len
  have h1 := hr.length
  have h2 := isFormL_len hf
  obtain ⟨size, agg, bytes, kinds, d, eq⟩ := ty
  simp only at hl h2
  cases agg with
  | true =>
    have h5 := etaL_self (ks := kinds) (cs := L) (j := 0) (v := .agg L) (isFormL_len hf) (fun i => by simp [V.cell, V.cells]) hs
    refine ⟨hf, congrArg V.agg h5, ⟨cs.toArray, rfl, hr⟩, ?_⟩
    show cs.length = size
    omega
  | false =>
    obtain ⟨h3, k, hk⟩ := ho rfl
    simp only at hk h3
    subst hk
    match L, hf, hs, hr with
    | [c], hf, hs, hr =>
      obtain ⟨x, rest, rfl, h4, h5⟩ := hr
      rw [show rest = [] from h5]
      exact ⟨by simpa [isFormL, isFormT, pack] using hf, hs 0 k c rfl rfl, h4, by simp [h3]⟩
    | [], hf, _, _ => simp [isFormL] at hf
    | _ :: _ :: _, hf, _, _ => simp [isFormL] at hf
theorem refsL_cells (v : V) : V.refsL v.cells = v.refs := by
  cases v <;> simp [V.cells, V.refsL, V.refs]
theorem cells_noR {T : TypeId → Ty} {O : Nat → Prop} {v : V} {l : List Value} (hr : RepL T w O v.cells (RefRep T h β) l) (hn : v.noRef = true) : RepL T w O v.cells noR l := by
  refine RepL.refs _ _ _ _ (fun r y hi h1 => ?_) hr
  rw [refsL_cells] at hi
  have he : v.refs = [] := by simpa [V.noRef] using hn
  have hne := h1.refs
  cases hq : r.refs with
  | nil => exact absurd hq hne
  | cons i l =>
    have := hi i (by rw [hq]; simp)
    rw [he] at this
    cases this
theorem op_store_elt (c : Ctx E P Z h view β w s a) {t : TypeId} {x y : Operand} {i g k j : Nat} (hi : ev E s x = .elt i g k j) (ho : o.op = .store t x y) (he : (evOp E view s fr o).eval = some r) : Does E P Z h β w a fr o r := by
  simp only [evOp, ho, hi] at he
  split at he
  · rename_i g' e vs hq
    split at he
    · rename_i hc
      simp only [Bool.and_eq_true] at hc
      obtain ⟨⟨⟨⟨⟨hok, hg⟩, h1⟩, h2⟩, h3⟩, h4⟩ := hc
      simp only [Tr.eval, Option.some.injEq] at he
      have row := c.ty.row hok
      have hgg := nat_of_beq hg
      subst hgg
      have hsz := nat_of_beq h1
      have hle := Nat.le_of_ble_eq_true h2
      have hx := c.val x
      rw [hi] at hx
      have hib := c.sees.at_ hq (by simp)
      obtain ⟨ro, g2, t2, vs2, hi2, _, _, hx⟩ := hx
      rw [hib] at hi2
      simp only [Ob.row.injEq] at hi2
      obtain ⟨rfl, rfl, rfl, rfl⟩ := hi2
      obtain ⟨hk, hx⟩ := hx rfl
      have hob := c.cx.ob i
      rw [hib] at hob
      obtain ⟨hte, hob | ⟨hn, cur, hb, hcap, hmax, hcs, hseq⟩⟩ := hob
      · rw [hob.2.1] at hk; simp at hk
      · have rowe := c.ty.row hte
        have hkk : vs[k]? = some vs[k] := List.getElem?_eq_getElem hk
        obtain ⟨f1, f2, cs', h6, h7, h8⟩ := RepSeq.get hseq hkk
        obtain ⟨q, hq0⟩ : ∃ q, q = (β i).off + k * (E.ty e).size := ⟨_, rfl⟩
        rw [← hq0] at h7
        rw [← Nat.add_assoc, ← hq0] at hx
        have hgd : vs.getD k .top = vs[k] := by rw [List.getD_eq_getElem?_getD, hkk]; rfl
        rw [hgd, f2] at he
        obtain ⟨fl, fs⟩ := form_cells rowe f1 f2
        have hold := mkVal_rep rowe f1 h6 h8
        have hycells := (c.val y).cells (by
          cases hv : ev E s y with
          | agg cs => exact .inl rfl
          | _ =>
            right
            rw [hv] at h3
            have : ∀ (ks : List Kd) (v : V), isFormL ks [v] = true → v.storable = true := by
              intro ks v hh
              match ks, hh with
              | [k], hh => rw [isFormL, Bool.and_eq_true] at hh; exact form_storable hh.1
              | [], hh => simp [isFormL] at hh
              | _ :: _ :: _, hh => simp [isFormL] at hh
            exact this _ _ h3) refOne
        have hyn := cells_noR hycells h4
        have hes := hyn.etaL (ks := ((E.ty e).kinds.drop j).take (ev E s y).cells.length) (j := 0) (v := .agg (ev E s y).cells) h3 (fun i => by simp [V.cell, V.cells])
        have hlen := hyn.length
        have hysz : (a.eval y).cells.size = (E.ty t).size := by rw [← hsz, ← hlen]; simp
        have hfe : isFormL (((E.ty e).kinds.drop j).take (ev E s y).cells.length) (AH.etaL (((E.ty e).kinds.drop j).take (ev E s y).cells.length) 0 (.agg (ev E s y).cells)) = true := isFormL_etaL _ _ 0 _ h3 (fun i => by simp [V.cell, V.cells])
        have hkinds : (E.ty e).kinds = (E.ty e).kinds.take j ++ ((E.ty e).kinds.drop j).take (ev E s y).cells.length ++ (E.ty e).kinds.drop (j + (ev E s y).cells.length) := by
          rw [List.append_assoc, ← List.drop_drop, List.take_append_drop, List.take_append_drop]
        have hlk := rowe.len
        have hcl := isFormL_len fl
        have hLf := isFormL_append (isFormL_append (isFormL_take j fl) hfe) (isFormL_drop (j + (ev E s y).cells.length) fl)
        have hLs := Stab.append (Stab.append (fs.take j) (Stab.etaL (((E.ty e).kinds.drop j).take (ev E s y).cells.length) (.agg (ev E s y).cells)) (by simp; omega)) (fs.drop (j + (ev E s y).cells.length)) (by simp [etaL_len]; omega)
        rw [← hkinds] at hLf hLs
        have hLr := ((hold.take j).append hes).append (hold.drop (j + (ev E s y).cells.length))
        obtain ⟨p1, p2, p3, p4⟩ := pack_form rowe hLf hLs hLr
        have hone : ∀ u ∈ (a.eval y).cells.toList, u.oneCell' = true := by
          refine RepL.oneAll (R := noR) (fun r y h => h.elim) hyn ?_
          have : ∀ (ks : List Kd) (cs : List V), isFormL ks cs = true → cs.all V.storable = true := by
            intro ks
            induction ks with
            | nil => intro cs h; cases cs <;> simp [isFormL] at h ⊢
            | cons k ks ih =>
              intro cs h
              cases cs with
              | nil => simp [isFormL] at h
              | cons c cs =>
                rw [isFormL, Bool.and_eq_true] at h
                rw [List.all_cons, Bool.and_eq_true]
                exact ⟨form_storable h.1, ih cs h.2⟩
          exact this _ _ h3
        have hpos := rowe.pos
        have hfit : q + (E.ty e).size ≤ cur.size := by
          have : k.succ * (E.ty e).size ≤ (β i).cap * (E.ty e).size := Nat.mul_le_mul_right _ (by omega)
          rw [Nat.succ_mul] at this
          rw [hcs, hq0]
          omega
        have hjl : j + (a.eval y).cells.size ≤ (E.ty e).size := by rw [hysz, ← hsz]; omega
        have hst := run_storeCells_at P (β i).b (q + j) e (a.eval y).cells.toList 0 cur w hb (by simp; omega) hone
        simp only [Nat.add_zero] at hst
        obtain ⟨W', hW'⟩ : ∃ W', W' = w.setRow (β i).b (cur.toList.take (q + j) ++ (a.eval y).cells.toList ++ cur.toList.drop (q + j + (a.eval y).cells.toList.length)).toArray := ⟨_, rfl⟩
        rw [← hW'] at hst
        have hmine : Mine h β i := ⟨by rw [hib]; rfl, hn⟩
        have hWb : W'.heap[(β i).b]? = some (.cells (cur.toList.take (q + j) ++ (a.eval y).cells.toList ++ cur.toList.drop (q + j + (a.eval y).cells.toList.length)).toArray e (0, 0)) := by rw [hW']; exact setRow_heap _ _ _ _ _ _ hb
        have hcell : ∀ m, W'.cell? ⟨(β i).b, m, none⟩ = (cur.toList.take (q + j) ++ (a.eval y).cells.toList ++ cur.toList.drop (q + j + (a.eval y).cells.toList.length))[m]? := by
          intro m
          simp [World.cell?, hWb]
        have hcell0 : ∀ m, w.cell? ⟨(β i).b, m, none⟩ = cur.toList[m]? := by intro m; simp [World.cell?, hb]
        have hcur : cur.toList.length = cur.size := by simp
        have hyl : (a.eval y).cells.toList.length = (a.eval y).cells.size := by simp
        obtain ⟨c1, c2⟩ := c.cx.update (w' := W') i (.row false g e (vs.set k (pack (E.ty e).agg (vs[k].cells.take j ++ AH.etaL (((E.ty e).kinds.drop j).take (ev E s y).cells.length) 0 (.agg (ev E s y).cells) ++ vs[k].cells.drop (j + (ev E s y).cells.length))))) (β i) (by rw [hW']; rfl) (by rw [hW']; rfl) (by rw [hW']; rfl) (by rw [hW']; simp) (fun b hb2 hne => by rw [hW']; exact setRow_other _ _ _ _ (Ne.symm (hne hmine))) rfl (fun _ => .inl ⟨hmine, rfl⟩)
          (by rw [hib]; exact ⟨_, _, _, _, rfl, Nat.le_refl _, fun _ => ⟨rfl, by simp, rfl⟩⟩) (fun hkp hR => by
            refine ⟨hte, .inr ⟨hn, _, hWb, by simpa using hcap, hmax, ?_, ?_⟩⟩
            · simp only [List.size_toArray, List.length_append, List.length_take, List.length_drop, hcur, hyl]
              rw [← hcs]; omega
            · refine RepSeq.set hkp hseq hk (fun m hm => ?_) ⟨p1, p2⟩ p4 (fun m u hm => ?_) (Rep.kept hkp _ _ _ _ (fun _ _ h => h) p3)
              · rw [hcell, hcell0]
                rcases hm with hm | hm
                · rw [List.append_assoc, List.getElem?_append_left (by simp [hcur]; omega), List.getElem?_take, if_pos (by omega)]
                · rw [List.getElem?_append_right (by simp [hcur, hyl]; omega), List.getElem?_drop]
                  congr 1
                  simp [hcur, hyl]
                  omega
              · rw [← hq0, hcell]
                have h7' : ∀ (m : Nat) (u : Value), cs'[m]? = some u → cur.toList[q + m]? = some u := fun m u hm => by rw [← hcell0]; exact h7 m u hm
                have hcsl : cs'.length = (E.ty e).size := h6
                rw [← hlen] at hm
                by_cases hm1 : m < j
                · rw [List.append_assoc, List.getElem?_append_left (by simp; omega), List.getElem?_take, if_pos (by omega)] at hm
                  rw [List.append_assoc, List.getElem?_append_left (by simp [hcur]; omega), List.getElem?_take, if_pos (by omega)]
                  exact h7' m u hm
                · by_cases hm2 : m < j + (a.eval y).cells.size
                  · rw [List.getElem?_append_left (by simp [hyl]; omega), List.getElem?_append_right (by simp; omega)] at hm
                    rw [List.getElem?_append_left (by simp [hcur, hyl]; omega), List.getElem?_append_right (by simp [hcur]; omega)]
                    rw [← hm]
                    congr 1
                    simp [hcur]
                    omega
                  · rw [List.getElem?_append_right (by simp [hyl]; omega), List.getElem?_drop] at hm
                    rw [List.getElem?_append_right (by simp [hcur, hyl]; omega), List.getElem?_drop]
                    have := h7' _ u hm
                    rw [← this]
                    congr 1
                    simp [hcur, hyl]
                    omega)
        refine ⟨_, _, undef, W', _, he.symm, .inr ⟨?_, rfl⟩, c1, c2, trivial, touch_upd (.inl (by rw [hib]; rfl))⟩
        simp only [execOp, ho, hx, Instr.storeAt, Instr.sureAddr, storeVar, Sem.run_bind, Sem.run_pure, Result.andThen_ok, row.size]
        rw [if_neg (by rw [hysz]; exact fun h => h rfl), hst]
        rfl
    · simp [Tr.eval] at he
  · simp [Tr.eval] at he
end
end Go.AH

namespace Go.AH
open Go Go.RowKit

section
variable {E : Env} {P : Program} {Z : Nat → Prop} {h view : Nat → Ob} {β : Nat → Loc} {w : World} {s : Nat → V} {a : Act} {fr : Nat} {o : Oper} {r : Rs}

/-- A row that lies at l, or the nil slice. -/
def RowAt (w : World) (e : TypeId) (size : Nat) (l : Loc) (n : Nat) (xs : List Value) : Prop :=
  (l.nil = true ∧ n = 0 ∧ l.cap = 0) ∨ (l.nil = false ∧ ∃ cur, w.heap[l.b]? = some (.cells cur e (0, 0)) ∧ n ≤ l.cap ∧ l.cap ≤ maxLen ∧ cur.size = l.off + l.cap * size ∧ (cur.toList.drop l.off).take (n * size) = xs)
theorem run_append_room_off (t ty e : TypeId) (i : TypeInfo) (ht : P.underlying t = some (.slice e)) (hi : P.info? e = some i)
    (g off sLen sCap : Nat) (cur : Array Value) (hg : w.heap[g]? = some (.cells cur e (0, 0)))
    (a : Addr) (m c : Nat) (news : List Value) (hl : news.length = m * i.size) (hnews : ∀ j u, news[j]? = some u → w.cell? (a.add j) = some u) (h1 : ∀ u ∈ news, u.oneCell' = true)
    (hroom : sLen + m ≤ sCap) (hfit : off + sLen * i.size + news.length ≤ cur.size) :
    (Builtin.append_ #[t, t] ty #[.slice (some ⟨g, off, none⟩) sLen sCap, .slice (some a) m c]).run P w =
      .ok (.slice (some ⟨g, off, none⟩) (sLen + m) sCap) (w.setRow g (cur.toList.take (off + sLen * i.size) ++ news ++ cur.toList.drop (off + sLen * i.size + news.length)).toArray) := by
  have hf := run_firstCells_some (P := P) w i.size m a m c news hl hnews
  have hst := run_storeCells_at P g (off + sLen * i.size) e news 0 cur w hg (by simpa using hfit) h1
  simp only [Nat.add_zero] at hst
  simp [Builtin.append_, run_underlying ht, sizeOf, typeInfo, hi, Builtin.lenOf, hroom, hf, Addr.add_lit, hst]
theorem run_app {t e ty : TypeId} {T : Ty} (row : Row P e T) (hu : P.underlying t = some (.slice e)) {l : Loc} {n : Nat} {xs : List Value} (hxs : xs.length = n * T.size) (hl : RowAt w e T.size l n xs)
    {ad : Option Addr} {m c : Nat} {news : List Value} (hl2 : news.length = m * T.size) (hsrc : m = 0 ∨ ∃ b, ad = some b ∧ ∀ j u, news[j]? = some u → w.cell? (b.add j) = some u) (h1 : ∀ u ∈ news, u.oneCell' = true) (hlim : n + m ≤ lim) :
    ∃ l' w', (Builtin.append_ #[t, t] ty #[.slice l.addr n l.cap, .slice ad m c]).run P w = .ok (.slice l'.addr (n + m) l'.cap) w' ∧
      w'.os = w.os ∧ w'.tape = w.tape ∧ w'.output = w.output ∧ w.heap.size ≤ w'.heap.size ∧ (∀ b, b < w.heap.size → (l.nil = false → l.b ≠ b) → w'.heap[b]? = w.heap[b]?) ∧
      (l'.nil = false → (l.nil = false ∧ l'.b = l.b) ∨ (w.heap.size ≤ l'.b ∧ l'.b < w'.heap.size)) ∧
      RowAt w' e T.size l' (n + m) (xs ++ news) ∧ (l'.nil = true → n + m = 0) := by
  obtain ⟨i, z, hi, hs, hby, hz, _, hz1, hz2⟩ := row.info
  have hsz := row.pos
  have hbs := row.bytes
  have hlm : lim = 4294967296 := rfl
  have hzs : z.cells.size = i.size := by
    have h3 := row.rep_zero (T := fun _ => T) (w := w) (O := fun _ => False) w noR
    obtain ⟨z', h4, _, _, h5⟩ := h3
    have : (zeroValue e).run P w = .ok z w := by simp [zeroValue, typeInfo, hi, hz]
    rw [this] at h4
    simp only [Result.ok.injEq, and_true] at h4
    subst h4
    rw [hs]; exact h5
  rw [← hs] at hxs hl hl2 ⊢
  have hbytes : (n + m) * i.bytes ≤ 140737488355328 := by
    rw [hby]
    have : (n + m) * T.bytes ≤ 4294967296 * 32768 := Nat.mul_le_mul (by omega) hbs
    omega
  have h63 : n + m ≤ maxLen := Nat.le_trans hlim maxLen_big
  have hsmall : n + m ≤ 9223372036854775807 := by omega
  have hlen : (xs ++ news).length = (n + m) * i.size := by rw [List.length_append, hxs, hl2, Nat.add_mul]
  have grown : ∀ (old : Nat) (l' : Loc), l' = ⟨w.heap.size, grownCap w (n + m) old e, false, 0⟩ → ∀ w', w' = w.drew.alloc (.cells (xs.toArray ++ news.toArray ++ Builtin.zeroCells z.cells (grownCap w (n + m) old e - (n + m))) e) →
      w'.os = w.os ∧ w'.tape = w.tape ∧ w'.output = w.output ∧ w.heap.size ≤ w'.heap.size ∧ (∀ b, b < w.heap.size → (l.nil = false → l.b ≠ b) → w'.heap[b]? = w.heap[b]?) ∧
      (l'.nil = false → (l.nil = false ∧ l'.b = l.b) ∨ (w.heap.size ≤ l'.b ∧ l'.b < w'.heap.size)) ∧
      RowAt w' e i.size l' (n + m) (xs ++ news) ∧ (l'.nil = true → n + m = 0) := by
    rintro old l' rfl w' rfl
    have hge := grownCap_ge w (n + m) old e
    have hcm : grownCap w (n + m) old e ≤ maxLen := grownCap_le_maxLen w (n + m) old e h63
    refine ⟨rfl, rfl, rfl, by simp, fun b hb _ => heap_alloc_old' w.drew _ hb, fun _ => .inr ⟨Nat.le_refl _, by simp⟩, .inr ⟨rfl, _, heap_alloc_new' w.drew _, hge, hcm, ?_, ?_⟩, fun h => (by cases h)⟩
    · simp only [Array.size_append, List.size_toArray, size_zeroCells, hzs, hxs, hl2, ← Nat.add_mul, Nat.zero_add]
      congr 1
      omega
    · simp only [Array.toList_append, List.append_assoc]
      rw [← List.append_assoc, ← hlen]
      exact List.take_left
  rcases hl with ⟨hn, rfl, hc0⟩ | ⟨hn, cur, hb, hnc, hcm, hcs, htake⟩
  · have hx : xs = [] := List.eq_nil_of_length_eq_zero (by simpa using hxs)
    subst hx
    rw [show l.addr = none from by simp [Loc.addr, hn], hc0]
    by_cases hm : m = 0
    · subst hm
      have hnw : news = [] := List.eq_nil_of_length_eq_zero (by simpa using hl2)
      subst hnw
      refine ⟨l, w, ?_, rfl, rfl, rfl, Nat.le_refl _, fun _ _ _ => rfl, fun h => (by rw [hn] at h; cases h), .inl ⟨hn, rfl, hc0⟩, fun _ => rfl⟩
      rw [show l.addr = none from by simp [Loc.addr, hn], hc0]
      cases ad <;> simp [Builtin.append_, run_underlying hu, sizeOf, typeInfo, hi, Builtin.lenOf, Builtin.firstCells, loadCells, loadCellsFrom]
    · obtain ⟨b, rfl, hcell⟩ := hsrc.resolve_left hm
      have hr := run_append_nil (P := P) w t ty e i z hu hi hz b m c news hl2 hcell (by omega) (by omega) (by simp only [Nat.zero_add] at hbytes; omega)
      have hgr := grown 0 _ rfl _ rfl
      simp only [Nat.zero_add, List.nil_append, Array.empty_append] at hgr ⊢
      exact ⟨⟨w.heap.size, grownCap w m 0 e, false, 0⟩, _, hr, by simpa using hgr⟩
  · rw [show l.addr = some ⟨l.b, l.off, none⟩ from by simp [Loc.addr, hn]]
    by_cases hm : m = 0
    · subst hm
      have hnw : news = [] := List.eq_nil_of_length_eq_zero (by simpa using hl2)
      subst hnw
      refine ⟨l, w, ?_, rfl, rfl, rfl, Nat.le_refl _, fun _ _ _ => rfl, fun _ => .inl ⟨hn, rfl⟩, .inr ⟨hn, cur, hb, hnc, hcm, hcs, by simpa using htake⟩, fun h => (by rw [hn] at h; cases h)⟩
      rw [show l.addr = some ⟨l.b, l.off, none⟩ from by simp [Loc.addr, hn]]
      cases ad <;> simp [Builtin.append_, run_underlying hu, sizeOf, typeInfo, hi, Builtin.lenOf, Builtin.firstCells, loadCells, loadCellsFrom, hnc, storeCells]
    · obtain ⟨b, rfl, hcell⟩ := hsrc.resolve_left hm
      by_cases hroom : n + m ≤ l.cap
      · have hfit : l.off + n * i.size + news.length ≤ cur.size := by
          have : (n + m) * i.size ≤ l.cap * i.size := Nat.mul_le_mul_right _ hroom
          rw [Nat.add_mul] at this
          rw [hl2, hcs]
          omega
        have hr := run_append_room_off (P := P) t ty e i hu hi l.b l.off n l.cap cur hb b m c news hl2 hcell h1 hroom hfit
        rw [show (some ⟨l.b, l.off, none⟩ : Option Addr) = l.addr from by simp [Loc.addr, hn]] at hr ⊢
        refine ⟨l, _, hr, rfl, rfl, rfl, by simp, fun k _ hk => setRow_other w l.b k _ (Ne.symm (hk hn)), fun _ => .inl ⟨hn, rfl⟩, .inr ⟨hn, _, setRow_heap w l.b cur _ e _ hb, hroom, hcm, ?_, ?_⟩, fun h => (by rw [hn] at h; cases h)⟩
        · simp only [List.size_toArray, List.length_append, List.length_take, List.length_drop, Array.length_toList]
          omega
        · have hpl : (cur.toList.take l.off).length = l.off := by
            rw [List.length_take, Array.length_toList]
            omega
          have hsp : cur.toList.take (l.off + n * i.size) = cur.toList.take l.off ++ xs := by
            rw [← htake, List.take_add]
          rw [hsp, List.append_assoc, List.append_assoc, List.drop_append, List.drop_eq_nil_of_le (by omega), hpl, Nat.sub_self, List.drop_zero, List.nil_append, ← List.append_assoc, ← hlen]
          exact List.take_left
      · have holds : ∀ j u, xs[j]? = some u → w.cell? ((⟨l.b, l.off, none⟩ : Addr).add j) = some u := fun j u hj => by
          rw [Addr.add_lit, cell_of_row w _ _ cur e (0, 0) hb]
          rw [← htake, List.getElem?_take] at hj
          split at hj
          · rw [List.getElem?_drop] at hj
            simpa using hj
          · cases hj
        have hr := run_append_grow (P := P) w t ty e i z hu hi hz ⟨l.b, l.off, none⟩ n l.cap xs hxs holds b m c news hl2 hcell (by omega) (by omega) (growslice_fits (by omega) hbytes)
        exact ⟨⟨w.heap.size, grownCap w (n + m) l.cap e, false, 0⟩, _, hr, grown l.cap _ rfl _ rfl⟩
theorem form_storableL : ∀ (ks : List Kd) (cs : List V), isFormL ks cs = true → cs.all V.storable = true
  | [], [], _ => rfl
  | [], _ :: _, h => by simp [isFormL] at h
  | _ :: _, [], h => by simp [isFormL] at h
  | k :: ks, c :: cs, h => by
    rw [isFormL, Bool.and_eq_true] at h
    rw [List.all_cons, Bool.and_eq_true]
    exact ⟨form_storable h.1, form_storableL ks cs h.2⟩
theorem Elems.one {T : TypeId → Ty} {O : Nat → Prop} {t : TypeId} (row : Row P t (T t)) {vs : List V} {css : List (List Value)} (e : Elems T w O t vs css) : ∀ u ∈ css.flatten, u.oneCell' = true := by
  intro u hu
  obtain ⟨cs, hcs, hu⟩ := List.mem_flatten.1 hu
  obtain ⟨n, hn, rfl⟩ := List.getElem_of_mem hcs
  have hn2 : n < vs.length := by rw [← e.len]; exact hn
  obtain ⟨⟨f1, f2⟩, f3⟩ := e.rep n vs[n] css[n] (List.getElem?_eq_getElem hn2) (List.getElem?_eq_getElem hn)
  have h1 := mkVal_rep row f1 (e.size _ hcs) f3
  exact RepL.oneAll (R := noR) (fun _ _ h => h.elim) h1 (form_storableL _ _ (form_cells row f1 f2).1) u hu
theorem append_core (hT : TyOk P E.ty) (cx : Cx E.ty E.glob Z h β w) {t e ty : TypeId} (hok : (E.ty e).ok = true) (hu : P.underlying t = some (.slice e)) {i g k : Nat} {vs new : List V} (hi : h i = .row false g e vs) (hk : k ≤ vs.length)
    {ad : Option Addr} {c' : Nat} (hsrc : new = [] ∨ ∃ b o, ad = some ⟨b, o, none⟩ ∧ RepSeq E.ty w (Own Z h β) new e b o) (hlim : k + new.length ≤ lim) :
    ∃ l' w', (Builtin.append_ #[t, t] ty #[.slice (β i).addr k (β i).cap, .slice ad new.length c']).run P w = .ok (.slice l'.addr (k + new.length) l'.cap) w' ∧
      Cx E.ty E.glob Z (upd h i (.row false (g + 1) e (vs.take k ++ new))) (upd β i l') w' ∧ Stp h β w (upd h i (.row false (g + 1) e (vs.take k ++ new))) (upd β i l') w' ∧ k + new.length ≤ l'.cap ∧ (k + new.length ≠ 0 → l'.nil = false) := by
  have row := hT.row hok
  have hob := cx.ob i
  rw [hi] at hob
  have hold : ∃ css, Elems E.ty w (Own Z h β) e (vs.take k) css ∧ RowAt w e (E.ty e).size (β i) k css.flatten := by
    obtain ⟨_, ⟨h1, rfl, h3⟩ | ⟨hn, cur, hb, hcap, hmax, hcs, hseq⟩⟩ := hob
    · simp at hk
      subst hk
      exact ⟨[], ⟨rfl, by simp, by simp⟩, .inl ⟨h1, rfl, h3⟩⟩
    · have h0 := RepSeq.part vs 0 k hseq
      simp only [List.drop_zero, Nat.zero_mul, Nat.add_zero] at h0
      obtain ⟨css, e1, hl⟩ := h0.elems
      refine ⟨css, e1, .inr ⟨hn, cur, hb, by omega, hmax, hcs, ?_⟩⟩
      have hfl := flatten_len css _ e1.size
      rw [e1.len, List.length_take, Nat.min_eq_left hk] at hfl
      have hks : (β i).off + k * (E.ty e).size ≤ cur.size := by
        have : k * (E.ty e).size ≤ (β i).cap * (E.ty e).size := Nat.mul_le_mul_right _ (by omega)
        omega
      apply List.ext_getElem?
      intro j
      by_cases hj : j < k * (E.ty e).size
      · have hj2 : css.flatten[j]? = some (css.flatten[j]'(by omega)) := List.getElem?_eq_getElem (by omega)
        have := hl j _ hj2
        rw [cell_of_row w _ _ cur e (0, 0) hb] at this
        rw [List.getElem?_take, if_pos hj, List.getElem?_drop, hj2, ← this]
        simp
      · rw [List.getElem?_eq_none (by simp; omega), List.getElem?_eq_none (by omega)]
  have hnew : ∃ dss, Elems E.ty w (Own Z h β) e new dss ∧ (new.length = 0 ∨ ∃ b, ad = some b ∧ ∀ j u, dss.flatten[j]? = some u → w.cell? (b.add j) = some u) := by
    rcases hsrc with rfl | ⟨b, o', rfl, hseq⟩
    · exact ⟨[], ⟨rfl, by simp, by simp⟩, .inl rfl⟩
    · obtain ⟨dss, e2, hl⟩ := hseq.elems
      exact ⟨dss, e2, .inr ⟨_, rfl, fun j u hj => by rw [Addr.add_lit]; exact hl j u hj⟩⟩
  obtain ⟨css, e1, hat⟩ := hold
  obtain ⟨dss, e2, hsrc2⟩ := hnew
  have hx1 := flatten_len css _ e1.size
  rw [e1.len, List.length_take, Nat.min_eq_left hk] at hx1
  have hx2 := flatten_len dss _ e2.size
  rw [e2.len] at hx2
  obtain ⟨l', w', hrun, g1, g2, g3, g4, g5, g6, g7, g8⟩ := run_app (ty := ty) (c := c') row hu hx1 hat hx2 hsrc2 (e2.one row) hlim
  have hmine : Mine h β i ↔ (β i).nil = false := by simp [Mine, hi, Ob.rw]
  obtain ⟨c1, c2⟩ := cx.update (w' := w') i (.row false (g + 1) e (vs.take k ++ new)) l' g1 g2 g3 g4 (fun b hb hne => g5 b hb (fun hn => hne (hmine.2 hn))) rfl
    (fun hn => by
      rcases g6 hn with ⟨h1, h2⟩ | h1
      · exact .inl ⟨hmine.2 h1, h2⟩
      · exact .inr h1)
    (by rw [hi]; exact ⟨_, _, _, _, rfl, by omega, fun h => (by omega)⟩)
    (fun hkp hR => by
      refine ⟨hok, ?_⟩
      rcases g7 with ⟨h1, h2, h3⟩ | ⟨h1, cur', h2, h3, h4, h5, h6⟩
      · left
        refine ⟨h1, ?_, h3⟩
        have : k = 0 ∧ new = [] := ⟨by omega, List.eq_nil_of_length_eq_zero (by omega)⟩
        rw [this.1, this.2]
        rfl
      · right
        refine ⟨h1, cur', h2, by simp; omega, h4, h5, ?_⟩
        refine ((e1.append e2).kept hkp).seq ?_
        rw [List.flatten_append, ← h6]
        have h7 := (Lies.of_block h2).drop l'.off
        rw [Nat.zero_add] at h7
        exact h7.take _)
  refine ⟨l', w', hrun, c1, c2, ?_, fun hne => ?_⟩
  · rcases g7 with ⟨_, h2, h3⟩ | ⟨_, _, _, h3, _⟩ <;> omega
  · cases hq : l'.nil with
    | false => rfl
    | true => exact absurd (g8 hq) hne
/-- A slice without room, and what is put behind it: new memory. -/
theorem append_fix (hT : TyOk P E.ty) (cx : Cx E.ty E.glob Z h β w) {t e ty : TypeId} (hok : (E.ty e).ok = true) (hu : P.underlying t = some (.slice e)) {k γ : Nat} {vs new : List V} (hk : ∀ vs' l', Hd (h k) (β k) (.row false γ e vs') l')
    {a0 : Option Addr} (hsrc0 : vs = [] ∨ ∃ b o, a0 = some ⟨b, o, none⟩ ∧ RepSeq E.ty w (Own Z h β) vs e b o) {ad : Option Addr} {c' : Nat} (hsrc : ∃ b o, ad = some ⟨b, o, none⟩ ∧ RepSeq E.ty w (Own Z h β) new e b o) (hne : 0 < new.length) (hlim : vs.length + new.length ≤ lim) :
    ∃ l' w', (Builtin.append_ #[t, t] ty #[.slice a0 vs.length vs.length, .slice ad new.length c']).run P w = .ok (.slice l'.addr (vs.length + new.length) l'.cap) w' ∧
      Cx E.ty E.glob Z (upd h k (.row false γ e (vs ++ new))) (upd β k l') w' ∧ Stp h β w (upd h k (.row false γ e (vs ++ new))) (upd β k l') w' ∧ vs.length + new.length ≤ l'.cap ∧ l'.nil = false ∧ l'.off = 0 := by
  have row := hT.row hok
  obtain ⟨i, z, hi, hs, hby, hz, _, hz1, hz2⟩ := row.info
  have hsz := row.pos
  have hbs := row.bytes
  have hlm : lim = 4294967296 := rfl
  have hzs : z.cells.size = i.size := by
    have h3 := row.rep_zero (T := fun _ => (E.ty e)) (w := w) (O := fun _ => False) w noR
    obtain ⟨z', h4, _, _, h5⟩ := h3
    have : (zeroValue e).run P w = .ok z w := by simp [zeroValue, typeInfo, hi, hz]
    rw [this] at h4
    simp only [Result.ok.injEq, and_true] at h4
    subst h4
    rw [hs]; exact h5
  obtain ⟨b, o', rfl, hseq⟩ := hsrc
  obtain ⟨dss, e2, hl2⟩ := hseq.elems
  have hx2 := flatten_len dss _ e2.size
  rw [e2.len] at hx2
  have hold : ∃ css, Elems E.ty w (Own Z h β) e vs css ∧ (vs = [] ∨ ∃ b, a0 = some b ∧ ∀ j u, css.flatten[j]? = some u → w.cell? (b.add j) = some u) := by
    rcases hsrc0 with rfl | ⟨b0, o0, rfl, h0⟩
    · exact ⟨[], ⟨rfl, by simp, by simp⟩, .inl rfl⟩
    · obtain ⟨css, e1, hl⟩ := h0.elems
      exact ⟨css, e1, .inr ⟨_, rfl, fun j u hj => by rw [Addr.add_lit]; exact hl j u hj⟩⟩
  obtain ⟨css, e1, hat⟩ := hold
  have hx1 := flatten_len css _ e1.size
  rw [e1.len] at hx1
  have hbytes : (vs.length + new.length) * i.bytes ≤ 140737488355328 := by
    rw [hby]
    have : (vs.length + new.length) * (E.ty e).bytes ≤ 4294967296 * 32768 := Nat.mul_le_mul (by omega) hbs
    omega
  have h63 : vs.length + new.length ≤ maxLen := Nat.le_trans hlim maxLen_big
  rw [← hs] at hx1 hx2
  obtain ⟨cap', w', hrun, hw', hcap, hcapm⟩ : ∃ cap' w', (Builtin.append_ #[t, t] ty #[.slice a0 vs.length vs.length, .slice (some ⟨b, o', none⟩) new.length c']).run P w = .ok (.slice (some ⟨w.heap.size, 0, none⟩) (vs.length + new.length) cap') w' ∧
      w' = w.drew.alloc (.cells (css.flatten.toArray ++ dss.flatten.toArray ++ Builtin.zeroCells z.cells (cap' - (vs.length + new.length))) e) ∧ vs.length + new.length ≤ cap' ∧ cap' ≤ maxLen := by
    have hcell : ∀ j u, dss.flatten[j]? = some u → w.cell? ((⟨b, o', none⟩ : Addr).add j) = some u := fun j u hj => by rw [Addr.add_lit]; exact hl2 j u hj
    cases a0 with
    | none =>
      obtain rfl : vs = [] := by
        rcases hat with h | ⟨_, h, _⟩
        · exact h
        · cases h
      have hcs : css = [] := List.eq_nil_of_length_eq_zero e1.len
      subst hcs
      have hr := run_append_nil (P := P) w t ty e i z hu hi hz ⟨b, o', none⟩ new.length c' dss.flatten hx2 hcell (by omega) (by simp only [List.length_nil, Nat.zero_add] at hlim; omega) (by simp only [List.length_nil, Nat.zero_add] at hbytes; omega)
      exact ⟨_, _, by simpa using hr, by simp, by simpa using grownCap_ge w new.length 0 e, by simpa using grownCap_le_maxLen w new.length 0 e (by simpa using h63)⟩
    | some b0 =>
      have h0 : ∀ j u, css.flatten[j]? = some u → w.cell? (b0.add j) = some u := by
        rcases hat with rfl | ⟨b1, hb1, h0⟩
        · have hcs : css = [] := List.eq_nil_of_length_eq_zero e1.len
          subst hcs
          simp
        · injection hb1 with hb1
          subst hb1
          exact h0
      have hr := run_append_grow (P := P) w t ty e i z hu hi hz b0 vs.length vs.length css.flatten hx1 h0 ⟨b, o', none⟩ new.length c' dss.flatten hx2 hcell (by omega) (by omega) (growslice_fits (by omega) hbytes)
      exact ⟨_, _, hr, rfl, grownCap_ge w _ _ e, grownCap_le_maxLen w _ _ e h63⟩
  refine ⟨⟨w.heap.size, cap', false, 0⟩, w', hrun, ?_⟩
  have hlen : (css.flatten ++ dss.flatten).length = (vs.length + new.length) * i.size := by rw [List.length_append, hx1, hx2, Nat.add_mul]
  obtain ⟨c1, c2⟩ := cx.update (w' := w') k (.row false γ e (vs ++ new)) ⟨w.heap.size, cap', false, 0⟩ (by rw [hw']; rfl) (by rw [hw']; rfl) (by rw [hw']; rfl) (by rw [hw']; simp) (fun b hb _ => by rw [hw']; exact heap_alloc_old' w.drew _ hb) rfl
    (fun _ => .inr ⟨Nat.le_refl _, by rw [hw']; simp⟩) (hk _ _)
    (fun hkp hR => by
      refine ⟨hok, .inr ⟨rfl, _, by rw [hw']; exact heap_alloc_new' w.drew _, by simpa using hcap, hcapm, ?_, ?_⟩⟩
      · rw [← hs]
        simp only [Array.size_append, List.size_toArray, size_zeroCells, hzs, hx1, hx2, ← Nat.add_mul, Nat.zero_add]
        congr 1
        omega
      · refine ((e1.append e2).kept hkp).seq ?_
        rw [List.flatten_append]
        have hb' : w'.heap[w.heap.size]? = some (.cells (css.flatten.toArray ++ dss.flatten.toArray ++ Builtin.zeroCells z.cells (cap' - (vs.length + new.length))) e) := by rw [hw']; exact heap_alloc_new' w.drew _
        have := (Lies.of_block hb').take (css.flatten ++ dss.flatten).length
        simp only [Array.toList_append, List.append_assoc] at this
        rw [← List.append_assoc, List.take_left] at this
        exact this)
  exact ⟨c1, c2, hcap, rfl, rfl⟩
theorem args2 {xs : Array Operand} {v1 v2 : V} (h : xs.toList.map (ev E s) = [v1, v2]) : ∃ x y, xs = #[x, y] ∧ ev E s x = v1 ∧ ev E s y = v2 := by
  obtain ⟨l⟩ := xs
  match l, h with
  | [x, y], h => simp at h; exact ⟨x, y, rfl, h.1, h.2⟩
  | [], h => simp at h
  | [_], h => simp at h
  | _ :: _ :: _ :: _, h => simp at h
theorem args1 {xs : Array Operand} {v1 : V} (h : xs.toList.map (ev E s) = [v1]) : ∃ x, xs = #[x] ∧ ev E s x = v1 := by
  obtain ⟨l⟩ := xs
  match l, h with
  | [x], h => simp at h; exact ⟨x, rfl, h⟩
  | [], h => simp at h
  | _ :: _ :: _, h => simp at h
theorem upd_upd {α : Type} (f : Nat → α) (i : Nat) (x y : α) : upd (upd f i x) i y = upd f i y := by
  funext j
  unfold upd
  cases Nat.beq j i <;> rfl
/-- What is put behind a part of a row that does not begin at its head. -/
theorem append_sub (hT : TyOk P E.ty) (cx : Cx E.ty E.glob Z h β w) {t e ty : TypeId} (hok : (E.ty e).ok = true) (hu : P.underlying t = some (.slice e)) {i g o m : Nat} {vs new : List V} (hi : h i = .row false g e vs) (ho : o ≠ 0) (hom : o + m ≤ vs.length)
    {a0 : Option Addr} (ha : (β i).cap - o ≠ 0 → a0 = some ⟨(β i).b, (β i).off + o * (E.ty e).size, none⟩) {ad : Option Addr} {c' : Nat} (hsrc : new = [] ∨ ∃ b o, ad = some ⟨b, o, none⟩ ∧ RepSeq E.ty w (Own Z h β) new e b o) (hne : 0 < new.length) (hlim : m + new.length ≤ lim) :
    ∃ l' w', (Builtin.append_ #[t, t] ty #[.slice a0 m ((β i).cap - o), .slice ad new.length c']).run P w = .ok (.slice l'.addr (m + new.length) l'.cap) w' ∧
      Cx E.ty E.glob Z (upd h i (.row false (g + 2) e ((vs.drop o).take m ++ new))) (upd β i l') w' ∧ Stp h β w (upd h i (.row false (g + 2) e ((vs.drop o).take m ++ new))) (upd β i l') w' ∧ m + new.length ≤ l'.cap ∧ l'.nil = false := by
  have hsrc' := hsrc.resolve_left (fun h => by rw [h] at hne; simp at hne)
  have hob := cx.ob i
  rw [hi] at hob
  obtain ⟨_, ⟨h7, rfl, _⟩ | ⟨hn, cur, hb, hcap, hmax, hcs, hseq⟩⟩ := hob
  · simp at hom; omega
  have hmine : Mine h β i := ⟨by rw [hi]; rfl, hn⟩
  by_cases hc : (β i).cap - o = 0
  · have hm : m = 0 := by omega
    subst hm
    obtain ⟨l', w', hrun, c1, c2, h3, h4, _⟩ := append_fix (ty := ty) (c' := c') (vs := []) (a0 := a0) (γ := g + 2) (k := i) hT cx hok hu (fun vs' l' => by rw [hi]; exact ⟨_, _, _, _, rfl, by omega, fun h => (by omega)⟩) (.inl rfl) hsrc' hne (by simpa using hlim)
    rw [hc]
    exact ⟨l', w', by simpa using hrun, by simpa using c1, by simpa using c2, by simpa using h3, h4⟩
  · have hpart := RepSeq.part vs o (vs.length - o) hseq
    rw [List.take_of_length_le (by simp)] at hpart
    obtain ⟨c1, c2⟩ := cx.update (w' := w) i (.row false (g + 1) e (vs.drop o)) ⟨(β i).b, (β i).cap - o, false, (β i).off + o * (E.ty e).size⟩ rfl rfl rfl (Nat.le_refl _) (fun _ _ _ => rfl) rfl (fun _ => .inl ⟨hmine, rfl⟩)
      (by rw [hi]; exact ⟨_, _, _, _, rfl, by omega, fun h => (by omega)⟩) (fun hkp hR => by
        refine ⟨hok, .inr ⟨rfl, cur, hb, by simp; omega, by show (β i).cap - o ≤ maxLen; omega, ?_, RepSeq.kept hkp _ _ _ _ rfl hpart⟩⟩
        show cur.size = (β i).off + o * (E.ty e).size + ((β i).cap - o) * (E.ty e).size
        rw [hcs, Nat.add_assoc, ← Nat.add_mul]
        congr 2
        omega)
    have hO : ∀ b, Own Z (upd h i (.row false (g + 1) e (vs.drop o))) (upd β i ⟨(β i).b, (β i).cap - o, false, (β i).off + o * (E.ty e).size⟩) b → Own Z h β b := by
      rintro b (hz | ⟨k, mk, ek⟩)
      · exact .inl hz
      · by_cases hk : k = i
        · subst hk
          rw [upd_same] at ek
          exact .inr ⟨k, hmine, ek⟩
        · rw [upd_other _ _ hk] at ek
          refine .inr ⟨k, ⟨?_, ?_⟩, ek⟩
          · have := mk.1
            rwa [upd_other _ _ hk] at this
          · have := mk.2
            rwa [upd_other _ _ hk] at this
    obtain ⟨l', w', hrun, d1, d2, h3, h4⟩ := append_core (ty := ty) (c' := c') (k := m) (new := new) (ad := ad) hT c1 hok hu (upd_same h i _) (by simp; omega) (.inr (by obtain ⟨b, o', e1, e2⟩ := hsrc'; exact ⟨b, o', e1, RepSeq.kept ⟨Nat.le_refl _, fun _ _ _ => rfl, fun b _ h h' => h (hO b h')⟩ _ _ _ _ rfl e2⟩)) hlim
    rw [upd_same] at hrun
    rw [upd_upd, upd_upd] at d1 d2
    refine ⟨l', w', ?_, d1, c2.trans d2, h3, h4 (by omega)⟩
    rw [ha hc]
    exact hrun
theorem lenV_rep (c : Ctx E P Z h view β w s a) {v : V} {x : Value} {n : Nat} (hr : Rep E.ty w (Own Z h β) v (RefRep E.ty h β) x) (hl : lenV v = some n) : ∃ ad cp, x = .slice ad n cp := by
  unfold lenV at hl
  split at hl
  · obtain ⟨ad, cp, rfl, _⟩ := hr
    simp at hl
    subst hl
    exact ⟨_, _, rfl⟩
  · obtain ⟨ad, rfl, _⟩ := hr
    simp at hl
    subst hl
    exact ⟨_, _, rfl⟩
  · simp at hl
    subst hl
    exact ⟨none, 0, hr⟩
  · obtain ⟨_, _, _, _, _, _, ⟨ad, cp, rfl, _⟩, _⟩ := hr
    simp at hl
    subst hl
    exact ⟨_, _, rfl⟩
  · obtain ⟨_, _, _, _, _, _, ⟨ad, cp, rfl, _⟩, _⟩ := hr
    simp at hl
    subst hl
    exact ⟨_, _, rfl⟩
  · obtain ⟨_, cp, _, rfl⟩ := hr
    simp at hl
    subst hl
    exact ⟨_, _, rfl⟩
  · cases hl
theorem op_builtin (c : Ctx E P Z h view β w s a) (hfr : h fr = .dead) {cl : Call} {b : Builtin} (ho : o.op = .call cl) (hb : cl.callee = .builtin b) (he : (evOp E view s fr o).eval = some r) : Does E P Z h β w a fr o r := by
  obtain ⟨callee, args, argTypes⟩ := cl
  simp only at hb
  subst hb
  simp only [evOp, ho] at he
  unfold evBuiltin at he
  split at he
  · rename_i v hargs
    obtain ⟨x, rfl, hv⟩ := args1 hargs
    have hx := c.val x
    rw [hv] at hx
    split at he
    · rename_i t ht
      obtain rfl : argTypes = #[t] := by
        obtain ⟨l⟩ := argTypes
        simp at ht
        rw [ht]
      split at he
      · rename_i d v' x hd
        simp only [Tr.eval, Option.some.injEq] at he
        obtain ⟨bs, hxe, h2⟩ := hx
        obtain ⟨hu, _⟩ := (c.ty.row (ok_of hd (by simp))).str hd
        subst h2
        refine Gives.does c ⟨_, .int .i64 bs.data.toList.length, he.symm, ?_, rfl⟩
        simp [execOp, ho, resolve, invoke, builtin, hxe, Builtin.len_, run_underlying hu, goInt]
      · rename_i v' e hd
        split at he
        · rename_i n hn
          simp only [Tr.eval, Option.some.injEq] at he
          obtain ⟨ad, cp, hxe⟩ := lenV_rep c hx hn
          obtain ⟨hu, _⟩ := (c.ty.row (ok_of hd (by simp))).slice hd
          refine Gives.does c ⟨_, .int .i64 n, he.symm, ?_, rfl⟩
          simp [execOp, ho, resolve, invoke, builtin, hxe, Builtin.len_, run_underlying hu, goInt]
        · simp [Tr.eval] at he
      · simp [Tr.eval] at he
    · simp [Tr.eval] at he
  · rename_i v1 v2 hargs
    obtain ⟨x, y, rfl, hv1, hv2⟩ := args2 hargs
    have hx := c.val x
    have hy := c.val y
    rw [hv1] at hx
    rw [hv2] at hy
    split at he
    · rename_i t t' ht
      obtain rfl : argTypes = #[t, t'] := by
        obtain ⟨l⟩ := argTypes
        simp at ht
        rw [ht]
      split at he
      · simp [Tr.eval] at he
      · rename_i htt
        obtain rfl := nat_of_beq htt
        split at he
        · rename_i e hd
          obtain ⟨hu, _⟩ := (c.ty.row (ok_of hd (by simp))).slice hd
          split at he
          · simp [Tr.eval] at he
          · rename_i hok
            split at he
            · rename_i e' new hels
              split at he
              · rename_i hee
                obtain ⟨ad, cap, hye, _, hsrc⟩ := els_sound c.cx c.sees hy hels
                have hsrc2 : new = [] ∨ ∃ b o, ad = some ⟨b, o, none⟩ ∧ RepSeq E.ty w (Own Z h β) new e b o := by
                  rcases hsrc with h1 | ⟨b, o, h1, _, h3⟩
                  · exact .inl h1
                  · cases new with
                    | nil => exact .inl rfl
                    | cons u new =>
                      simp at hee
                      obtain rfl := hee
                      exact .inr ⟨b, o, h1, h3⟩
                unfold appendV at he
                split at he
                · obtain ⟨h3, h4⟩ := eval_test he
                  simp only [decide_eq_true_eq] at h3
                  simp only [Tr.eval, Option.some.injEq] at h4
                  have hxe : a.eval x = .slice none 0 0 := hx
                  obtain ⟨k1, k2⟩ := c.cx.update (w' := w) fr (.row false 0 e []) ⟨0, 0, true, 0⟩ rfl rfl rfl (Nat.le_refl _) (fun _ _ _ => rfl) rfl (fun hn => by cases hn) (by rw [hfr]; exact trivial) (fun _ _ => ⟨hok, .inl ⟨rfl, rfl, rfl⟩⟩)
                  have hsrc3 : new = [] ∨ ∃ b o, ad = some ⟨b, o, none⟩ ∧ RepSeq E.ty w (Own Z (upd h fr (.row false 0 e [])) (upd β fr ⟨0, 0, true, 0⟩)) new e b o := by
                    rcases hsrc2 with h1 | ⟨b, o', h1, h2⟩
                    · exact .inl h1
                    · exact .inr ⟨b, o', h1, RepSeq.kept (k2.kept c.cx) new e b o' rfl h2⟩
                  obtain ⟨l', w', hrun, c1, c2, hcap, hnn⟩ := append_core (ty := o.type) (c' := cap) (t := t) (i := fr) (g := 0) (k := 0) (vs := []) c.ty k1 hok hu (upd_same _ _ _) (Nat.le_refl _) hsrc3 h3
                  rw [upd_same] at hrun
                  have hh : upd (upd h fr (.row false 0 e [])) fr (.row false (0 + 1) e (List.take 0 [] ++ new)) = upd h fr (.row false 1 e new) := by
                    funext k
                    unfold upd
                    cases Nat.beq k fr <;> rfl
                  rw [hh] at c1 c2
                  refine ⟨_, _, .slice l'.addr (0 + new.length) l'.cap, w', _, h4.symm, .inl ?_, c1, k2.trans c2, ?_, touch_upd (.inr ⟨Nat.le_refl _, by omega⟩)⟩
                  · simp only [execOp, ho, resolve, invoke, builtin, Sem.run_bind, Sem.run_pure, Result.andThen_ok, List.map_toArray, List.map_cons, List.map_nil, hxe, hye]
                    have : Loc.addr ⟨0, 0, true, 0⟩ = none := rfl
                    rw [this] at hrun
                    simp only [hrun, Sem.run_pure, Result.andThen_ok]
                  · refine ⟨false, 1, e, new, by rw [updL, updL, upd_same], Nat.le_refl _, ⟨_, _, by rw [Nat.zero_add], by rw [← Nat.zero_add new.length]; exact hcap, fun hne => ?_⟩, fun _ => ⟨rfl, rfl, ?_⟩⟩
                    · exact ⟨l'.b, l'.off, by simp [Loc.addr, hnn (by omega)]⟩
                    · rw [upd_same, Nat.zero_add]
                · rename_i t' vs
                  split at he
                  · rename_i hg
                    rw [Bool.and_eq_true] at hg
                    obtain ⟨hg1, hg2⟩ := hg
                    have hpos : 0 < new.length := Nat.le_of_ble_eq_true hg2
                    obtain ⟨h3, h4⟩ := eval_test he
                    simp only [decide_eq_true_eq] at h3
                    simp only [Tr.eval, Option.some.injEq] at h4
                    obtain ⟨a0, hxe, hx2⟩ := hx
                    have hs0 : vs = [] ∨ ∃ b o, a0 = some ⟨b, o, none⟩ ∧ RepSeq E.ty w (Own Z h β) vs e b o := by
                      rcases hx2 with h5 | ⟨b, o', h5, _, _, h6⟩
                      · exact .inl h5
                      · cases vs with
                        | nil => exact .inl rfl
                        | cons u vs =>
                          simp at hg1
                          obtain rfl := hg1
                          exact .inr ⟨b, o', h5, h6⟩
                    have hs1 : ∃ b o, ad = some ⟨b, o, none⟩ ∧ RepSeq E.ty w (Own Z h β) new e b o := hsrc2.resolve_left (fun h => by rw [h] at hpos; simp at hpos)
                    have hxe' : a.eval x = .slice a0 vs.length vs.length := hxe
                    obtain ⟨l', w', hrun, c1, c2, hcap, hnn, _⟩ := append_fix (ty := o.type) (c' := cap) c.ty c.cx hok hu (fun _ _ => by rw [hfr]; trivial) hs0 hs1 hpos h3
                    refine ⟨_, _, .slice l'.addr (vs.length + new.length) l'.cap, w', _, h4.symm, .inl ?_, c1, c2, ?_, touch_upd (.inr ⟨Nat.le_refl _, by omega⟩)⟩
                    · simp only [execOp, ho, resolve, invoke, builtin, Sem.run_bind, Sem.run_pure, Result.andThen_ok, List.map_toArray, List.map_cons, List.map_nil, hxe', hye, hrun]
                    · refine ⟨false, 1, e, vs ++ new, by rw [updL, updL, upd_same], Nat.le_refl _, ⟨_, _, by rw [List.length_append], by rw [List.length_append]; exact hcap, fun hne => ?_⟩, fun _ => ⟨rfl, rfl, by rw [upd_same, List.length_append]⟩⟩
                      exact ⟨l'.b, l'.off, by simp [Loc.addr, hnn]⟩
                  · simp [Tr.eval] at he
                · rename_i tt i g n
                  split at he
                  · rename_i g' t' vs hq
                    split at he
                    · rename_i hg
                      rw [Bool.and_eq_true] at hg
                      obtain ⟨hg1, hg2⟩ := hg
                      obtain rfl := nat_of_beq hg1
                      obtain rfl := nat_of_beq hg2
                      obtain ⟨h3, h4⟩ := eval_test he
                      simp only [decide_eq_true_eq] at h3
                      simp only [Tr.eval, Option.some.injEq] at h4
                      have hib := c.sees.at_ hq (by simp)
                      obtain ⟨ro2, g2, t2, vs2, hi2, _, _, hxx⟩ := hx
                      rw [hib] at hi2
                      simp only [Ob.row.injEq] at hi2
                      obtain ⟨rfl, rfl, rfl, rfl⟩ := hi2
                      obtain ⟨rfl, rfl, hxe⟩ := hxx rfl
                      obtain ⟨l', w', hrun, c1, c2, hcap, hnn⟩ := append_core (ty := o.type) (c' := cap) c.ty c.cx hok hu hib (Nat.le_refl _) hsrc2 h3
                      rw [List.take_of_length_le (Nat.le_refl _)] at c1 c2
                      refine ⟨_, _, .slice l'.addr (vs.length + new.length) l'.cap, w', _, h4.symm, .inl ?_, c1, c2, ?_, touch_upd (.inl (by rw [hib]; rfl))⟩
                      · simp only [execOp, ho, resolve, invoke, builtin, Sem.run_bind, Sem.run_pure, Result.andThen_ok, List.map_toArray, List.map_cons, List.map_nil, hxe, hye, hrun]
                      · refine ⟨false, g + 1, _, _, by rw [updL, updL, upd_same], Nat.le_refl _, ⟨_, _, by rw [List.length_append], by rw [List.length_append]; exact hcap, fun hne => ?_⟩, fun _ => ⟨rfl, rfl, by rw [upd_same, List.length_append]⟩⟩
                        rw [List.length_append] at hne
                        exact ⟨l'.b, l'.off, by simp [Loc.addr, hnn hne]⟩
                    · simp [Tr.eval] at he
                  · simp [Tr.eval] at he
                · rename_i tt i g o' m
                  split at he
                  · rename_i g' t' vs hq
                    split at he
                    · simp [Tr.eval] at he
                    · rename_i hg
                      rw [Bool.and_eq_true] at hg
                      obtain ⟨hg1, hg2⟩ := hg
                      obtain rfl := nat_of_beq hg1
                      obtain rfl := nat_of_beq hg2
                      have hib := c.sees.at_ hq (by simp)
                      obtain ⟨ro2, g2, t2, vs2, hi2, _, _, hxx⟩ := hx
                      rw [hib] at hi2
                      simp only [Ob.row.injEq] at hi2
                      obtain ⟨rfl, rfl, rfl, rfl⟩ := hi2
                      obtain ⟨rfl, hom, ad2, hxe, hx2⟩ := hxx rfl
                      split at he
                      · rename_i hg3
                        split at he
                        · rename_i hpos
                          have hpos := Nat.le_of_ble_eq_true hpos
                          obtain ⟨h3, h4⟩ := eval_test he
                          simp only [decide_eq_true_eq] at h3
                          simp only [Tr.eval, Option.some.injEq] at h4
                          have ho0 : o' ≠ 0 := fun h => by subst h; cases hg3
                          obtain ⟨l', w', hrun, c1, c2, hcap, hnn⟩ := append_sub (ty := o.type) (c' := cap) c.ty c.cx hok hu hib ho0 hom hx2 hsrc2 hpos h3
                          have hlen : (List.take m (List.drop o' vs) ++ new).length = m + new.length := by simp; omega
                          refine ⟨_, _, .slice l'.addr (m + new.length) l'.cap, w', _, h4.symm, .inl ?_, c1, c2, ?_, touch_upd (.inl (by rw [hib]; rfl))⟩
                          · simp only [execOp, ho, resolve, invoke, builtin, Sem.run_bind, Sem.run_pure, Result.andThen_ok, List.map_toArray, List.map_cons, List.map_nil, hxe, hye, hrun]
                          · exact ⟨false, g + 2, _, _, by rw [updL, updL, upd_same], Nat.le_refl _, ⟨_, _, by rw [hlen], by rw [hlen]; exact hcap, fun _ => ⟨l'.b, l'.off, by simp [Loc.addr, hnn]⟩⟩, fun _ => ⟨rfl, rfl, by rw [upd_same, hlen]⟩⟩
                        · simp [Tr.eval] at he
                      rename_i hg3
                      obtain rfl := nat_of_beq hg3
                      obtain ⟨h3, h4⟩ := eval_test he
                      simp only [Bool.and_eq_true, decide_eq_true_eq] at h3
                      obtain ⟨h3, h5⟩ := h3
                      simp only [Tr.eval, Option.some.injEq] at h4
                      have hm : m ≤ vs.length := by omega
                      have hob := c.cx.ob i
                      rw [hib] at hob
                      have hloc : (β i).addr = ad2 := by
                        obtain ⟨_, ⟨_, h7, _⟩ | ⟨hn, cur, _, h7, _⟩⟩ := hob
                        · rw [h7] at h5; simp at h5
                        · rw [hx2 (by omega)]
                          simp [Loc.addr, hn]
                      obtain ⟨l', w', hrun, c1, c2, hcap, hnn⟩ := append_core (ty := o.type) (c' := cap) c.ty c.cx hok hu hib hm hsrc2 h3
                      have hlen : (List.take m (List.drop 0 vs) ++ new).length = m + new.length := by simp; omega
                      refine ⟨_, _, .slice l'.addr (m + new.length) l'.cap, w', _, h4.symm, .inl ?_, c1, c2, ?_, touch_upd (.inl (by rw [hib]; rfl))⟩
                      · rw [hloc] at hrun
                        rw [Nat.sub_zero] at hxe
                        simp only [execOp, ho, resolve, invoke, builtin, Sem.run_bind, Sem.run_pure, Result.andThen_ok, List.map_toArray, List.map_cons, List.map_nil, hxe, hye, hrun]
                      · refine ⟨false, g + 1, _, _, by rw [updL, updL, upd_same], Nat.le_refl _, ⟨_, _, by rw [hlen], by rw [hlen]; exact hcap, fun hne => ?_⟩, fun _ => ⟨rfl, rfl, by rw [upd_same, hlen]⟩⟩
                        rw [hlen] at hne
                        exact ⟨l'.b, l'.off, by simp [Loc.addr, hnn hne]⟩
                  · simp [Tr.eval] at he
                · simp [Tr.eval] at he
              · simp [Tr.eval] at he
            · simp [Tr.eval] at he
        · simp [Tr.eval] at he
    · simp [Tr.eval] at he
  · rename_i k p k' q hargs
    obtain ⟨x, y, rfl, hv1, hv2⟩ := args2 hargs
    have hx := c.val x
    have hy := c.val y
    rw [hv1] at hx
    rw [hv2] at hy
    have hxe : a.eval x = .int k p := hx
    have hye : a.eval y = .int k' q := hy
    split at he
    · simp only [Tr.eval, Option.some.injEq] at he
      refine Gives.does c ⟨_, .int k (if q > p then q else p), he.symm, ?_, ?_⟩
      · simp [execOp, ho, resolve, invoke, builtin, hxe, hye, Builtin.max_, Builtin.max2]
      · by_cases hq : q > p
        · simp [hq, Rep]
        · simp [hq, Rep]
    · simp [Tr.eval] at he
  · rename_i k p k' q hargs
    obtain ⟨x, y, rfl, hv1, hv2⟩ := args2 hargs
    have hx := c.val x
    have hy := c.val y
    rw [hv1] at hx
    rw [hv2] at hy
    have hxe : a.eval x = .int k p := hx
    have hye : a.eval y = .int k' q := hy
    split at he
    · simp only [Tr.eval, Option.some.injEq] at he
      refine Gives.does c ⟨_, .int k (if q < p then q else p), he.symm, ?_, ?_⟩
      · simp [execOp, ho, resolve, invoke, builtin, hxe, hye, Builtin.min_, Builtin.min2]
      · by_cases hq : q < p
        · simp [hq, Rep]
        · simp [hq, Rep]
    · simp [Tr.eval] at he
  · simp [Tr.eval] at he
end
end Go.AH

namespace Go.AH
open Go Go.RowKit

section
variable {E : Env} {P : Program} {Z : Nat → Prop} {h view : Nat → Ob} {β : Nat → Loc} {w : World} {s : Nat → V} {a : Act} {fr : Nat} {o : Oper} {r : Rs} {T : TypeId → Ty} {O : Nat → Prop} {R R' : V → Value → Prop}

theorem same_basic {k : Kd} (hp : k.plain = true) {a b : V} {x y : Value} (fa : isForm k a = true) (fb : isForm k b = true) (ha : Rep T w O a R x) (hb : Rep T w O b R' y) (hs : eqV a b = some true) (n : Nat) : Instr.sameBits n y x = true := by
  cases k <;> simp [Kd.plain] at hp
  · cases a <;> simp [isForm] at fa
    cases b <;> simp [isForm] at fb
    rw [show x = _ from ha, show y = _ from hb]
    simp [eqV] at hs
    cases n <;> simp [Instr.sameBits, hs]
  · cases a <;> simp [isForm] at fa
    cases b <;> simp [isForm] at fb
    subst fa fb
    rw [show x = _ from ha, show y = _ from hb]
    simp [eqV] at hs
    cases n <;> simp [Instr.sameBits, hs]
  · cases a <;> simp [isForm] at fa
    cases b <;> simp [isForm] at fb
    obtain ⟨b1, rfl, h8⟩ := ha
    obtain ⟨b2, rfl, h10⟩ := hb
    simp [eqV] at hs
    cases n <;> simp [Instr.sameBits, beq_bytes, h8, h10, hs]
theorem same_cells (n : Nat) : ∀ {ks : List Kd} {as bs : List V} {p q : List Value}, ks.all Kd.plain = true → isFormL ks as = true → isFormL ks bs = true → RepL T w O as R p → RepL T w O bs R' q → eqCells as bs = some true →
    q.length = p.length ∧ (q.zip p).all (fun x => Instr.sameBits n x.1 x.2) = true
  | [], [], [], _, _, _, _, _, h1, h2, _ => by rw [show _ = [] from h1, show _ = [] from h2]; simp
  | [], _ :: _, _, _, _, _, h, _, _, _, _ => by simp [isFormL] at h
  | [], [], _ :: _, _, _, _, _, h, _, _, _ => by simp [isFormL] at h
  | _ :: _, [], _, _, _, _, h, _, _, _, _ => by simp [isFormL] at h
  | _ :: _, _ :: _, [], _, _, _, _, h, _, _, _ => by simp [isFormL] at h
  | k :: ks, a :: as, b :: bs, _, _, hp, fa, fb, ⟨x, p, e1, h1, h2⟩, ⟨y, q, e2, h3, h4⟩, hs => by
    subst e1 e2
    rw [isFormL, Bool.and_eq_true] at fa fb
    rw [List.all_cons, Bool.and_eq_true] at hp
    unfold eqCells at hs
    split at hs
    · rename_i u v hu hv
      simp at hs
      obtain ⟨rfl, rfl⟩ := hs
      obtain ⟨g1, g2⟩ := same_cells n hp.2 fa.2 fb.2 h2 h4 hv
      refine ⟨by simp [g1], ?_⟩
      rw [List.zip_cons_cons, List.all_cons, same_basic hp.1 fa.1 fb.1 h1 h3 hu, g2]
      rfl
    · cases hs
theorem same_bits {kt : TypeId} {ty : Ty} (row : Row P kt ty) (hk : plainKey ty = true) (hok : ty.ok = true) {a b : V} {x y : Value} (fa : isFormT ty a = true) (fb : isFormT ty b = true) (ha : Rep T w O a R x) (hb : Rep T w O b R' y)
    (hs : keySame ty a b = true) (n : Nat) : Instr.sameBits (n + 1) y x = true := by
  have hpl : ty.kinds.all Kd.plain = true := by unfold plainKey at hk; rw [Bool.and_eq_true] at hk; exact hk.1
  rcases key_cases row hk hok with ⟨k, h1, h2, h3⟩ | ⟨fs, h1, h2, h3, h4⟩
  · simp only [isFormT, h2, h3] at fa fb
    rw [h2] at hpl
    simp at hpl
    obtain ⟨q, hq⟩ := eqV_some hpl fa fb
    simp only [keySame, h2, h3, eta_plain hpl fa, eta_plain hpl fb, hq, Option.getD_some] at hs
    subst hs
    exact same_basic hpl fa fb ha hb hq _
  · cases a <;> simp [isFormT, h2] at fa
    cases b <;> simp [isFormT, h2] at fb
    obtain ⟨p, rfl, hp⟩ := ha
    obtain ⟨q, rfl, hq⟩ := hb
    simp only [keySame, h2, etaL_plain hpl fa, etaL_plain hpl fb] at hs
    obtain ⟨res, hres⟩ := eqCells_some hpl fa fb
    rw [hres, Option.getD_some] at hs
    subst hs
    obtain ⟨g1, g2⟩ := same_cells n hpl fa fb hp hq hres
    simp only [Instr.sameBits, Bool.and_eq_true]
    exact ⟨by simpa using g1, g2⟩
theorem RepL.setAt {ks : List V} {l : List Value} (hr : RepL T w O ks R l) {k : V} {x : Value} (hx : Rep T w O k R x) : ∀ (n : Nat), RepL T w O (ks.set n k) R (l.set n x) := by
  intro n
  induction ks generalizing l n with
  | nil => rw [show l = [] from hr]; exact rfl
  | cons u ks ih =>
    obtain ⟨y, r, rfl, h1, h2⟩ := hr
    cases n with
    | zero => exact ⟨x, r, rfl, hx, h2⟩
    | succ n => exact ⟨y, _, rfl, h1, ih h2 n⟩
theorem map_modify {α β : Type} (f : α → β) (g : α → α) (es : Array α) (n : Nat) (y : β) (hn : n < es.size) (hg : ∀ e, f (g e) = y) : (es.modify n g).toList.map f = (es.toList.map f).set n y := by
  apply List.ext_getElem?
  intro j
  simp only [List.getElem?_map, Array.getElem?_toList, Array.getElem?_modify, List.getElem?_set, List.length_map, Array.length_toList]
  by_cases hj : n = j
  · subst hj
    simp [hn, hg]
  · simp [hj]
theorem plain_noRef1 {k : Kd} {v : V} (hp : k.plain = true) (hf : isForm k v = true) : v.refs = [] := by
  cases k <;> simp [Kd.plain] at hp <;> cases v <;> simp [isForm] at hf <;> rfl
theorem plain_noRefL : ∀ {ks : List Kd} {cs : List V}, ks.all Kd.plain = true → isFormL ks cs = true → V.refsL cs = []
  | [], [], _, _ => rfl
  | [], _ :: _, _, h => by simp [isFormL] at h
  | _ :: _, [], _, h => by simp [isFormL] at h
  | k :: ks, c :: cs, hp, h => by
    rw [isFormL, Bool.and_eq_true] at h
    rw [List.all_cons, Bool.and_eq_true] at hp
    rw [V.refsL, plain_noRef1 hp.1 h.1, plain_noRefL hp.2 h.2]
    rfl
theorem plain_noRef {ty : Ty} {v : V} (hp : ty.kinds.all Kd.plain = true) (hf : isFormT ty v = true) : v.noRef = true := by
  obtain ⟨size, agg, bytes, kinds, d, eq⟩ := ty
  unfold V.noRef
  cases agg with
  | true =>
    cases v <;> simp [isFormT] at hf
    rw [V.refs, plain_noRefL hp hf]
    rfl
  | false =>
    match kinds, hp, hf with
    | [k], hp, hf =>
      rw [plain_noRef1 (by simpa using hp) hf]
      rfl
    | [], _, hf => simp [isFormT] at hf
    | _ :: _ :: _, _, hf => simp [isFormT] at hf
theorem op_mapUpdate (c : Ctx E P Z h view β w s a) {t : TypeId} {m k x : Operand} (ho : o.op = .mapUpdate t m k x) (he : (evOp E view s fr o).eval = some r) : Does E P Z h β w a fr o r := by
  simp only [evOp, ho] at he
  have hm := c.val m
  have hk := c.val k
  have hx := c.val x
  split at he
  · rename_i kt et hd
    have hu := (c.ty.row (ok_of hd (by simp))).map hd
    split at he
    · rename_i hc
      simp only [Bool.and_eq_true] at hc
      obtain ⟨⟨⟨⟨⟨hk1, hk2⟩, hk3⟩, hk4⟩, hx1⟩, hx2⟩ := hc
      have rowk := c.ty.row hk1
      have rowe := c.ty.row hk2
      have hpl : (E.ty kt).kinds.all Kd.plain = true := by unfold plainKey at hk4; rw [Bool.and_eq_true] at hk4; exact hk4.1
      split at he
      · rename_i i hi
        rw [hi] at hm
        obtain ⟨_, hm⟩ := hm
        split at he
        · rename_i t' ks vs hq
          split at he
          · rename_i htt
            obtain rfl := nat_of_beq htt
            simp only [Tr.eval, Option.some.injEq] at he
            have hib := c.sees.at_ hq (by simp)
            have hob := c.cx.ob i
            rw [hib] at hob
            obtain ⟨hn, hdk, es, clk, hb, hrk, hrv⟩ := hob
            obtain ⟨hd1, hd2⟩ := hdk kt et hd
            have hlt := (Array.getElem?_eq_some_iff.1 hb).1
            obtain ⟨f, hf1, hf2⟩ := run_findKey (P := P) (es := es.toList) rowk hk4 hk1 hk3 hk hrk hd1
            have hck := run_checkKey (P := P) rowk hk4 hk1 hk3 hk false
            have hmine : Mine h β i := ⟨by rw [hib]; rfl, hn⟩
            have hkn : Rep E.ty w (Own Z h β) (ev E s k) noR (a.eval k) := noRef_noR hk (plain_noRef hpl hk3)
            have hxn : Rep E.ty w (Own Z h β) (etaT (E.ty et) (ev E s x)) noR (a.eval x) := (noRef_noR hx hx2).etaT hx1
            have main : ∀ (es' : Array MapEntry) (clk' : Nat) (ks' vs' : List V), (Instr.mapUpdate t (a.eval m) (a.eval k) (a.eval x)).run P w = .ok () { w with heap := w.heap.setIfInBounds (β i).b (.map es' clk') } →
                dictPut (E.ty kt) (ev E s k) (etaT (E.ty et) (ev E s x)) ks vs = (ks', vs') →
                (∀ k' ∈ ks', isFormT (E.ty kt) k' = true) → (∀ v' ∈ vs', isFormT (E.ty et) v' = true ∧ etaT (E.ty et) v' = v') →
                RepL E.ty w (Own Z h β) ks' noR (es'.toList.map (·.key)) → RepL E.ty w (Own Z h β) vs' noR (es'.toList.map (·.val)) → Does E P Z h β w a fr o r := by
              intro es' clk' ks' vs' hrun hput h1 h2 h3 h4
              rw [hput] at he
              obtain ⟨W', hW'⟩ : ∃ W' : World, W' = { w with heap := w.heap.setIfInBounds (β i).b (.map es' clk') } := ⟨_, rfl⟩
              rw [← hW'] at hrun
              obtain ⟨c1, c2⟩ := c.cx.update (w' := W') i (.dict false t ks' vs') (β i) (by rw [hW']) (by rw [hW']) (by rw [hW']) (by rw [hW']; simp)
                (fun b hb2 hne => by rw [hW']; simp [Array.getElem?_setIfInBounds, hne hmine]) rfl (fun _ => .inl ⟨hmine, rfl⟩) (by rw [hib]; exact ⟨⟨_, _, _, _, rfl⟩, rfl⟩)
                (fun hkp hR => ⟨hn, fun kt' et' hd' => by
                  rw [hd] at hd'
                  simp only [TD.map.injEq] at hd'
                  obtain ⟨rfl, rfl⟩ := hd'
                  exact ⟨h1, h2⟩, es', clk', by rw [hW']; simp [hlt], RepL.kept hkp _ _ _ _ (fun _ _ h => h) h3, RepL.kept hkp _ _ _ _ (fun _ _ h => h) h4⟩)
              exact ⟨_, _, undef, W', _, he.symm, .inr ⟨by simp [execOp, ho, hrun], rfl⟩, c1, c2, trivial, touch_upd (.inl (by rw [hib]; rfl))⟩
            have fx : isFormT (E.ty et) (etaT (E.ty et) (ev E s x)) = true ∧ etaT (E.ty et) (etaT (E.ty et) (ev E s x)) = etaT (E.ty et) (ev E s x) := ⟨form_etaT hx1, etaT_etaT _ _⟩
            rcases find_dict es.toList ks vs 0 hrk hrv hf1 with ⟨_, h6, h7⟩ | ⟨n, e, k', v', _, h6, h8, h9, h10, h11, _, h13, h14⟩
            · refine main (es.push { key := a.eval k, val := a.eval x, born := clk }) (clk + 1) _ _ ?_ (h7 _) ?_ ?_ ?_ ?_
              · simp [Instr.mapUpdate, hm, run_underlying hu, MapKept.run_getObj_map hb, hck, hf2, h6, MapKept.run_setObj_map _ hb, Result.andThen]
              · intro k' hk'
                rcases List.mem_append.1 hk' with h | h
                · exact hd1 _ h
                · rw [List.mem_singleton.1 h]; exact hk3
              · intro v' hv'
                rcases List.mem_append.1 hv' with h | h
                · exact hd2 _ h
                · rw [List.mem_singleton.1 h]; exact fx
              · simpa using hrk.append (us := [ev E s k]) (m := [a.eval k]) ⟨_, _, rfl, hkn, rfl⟩
              · simpa using hrv.append (us := [etaT (E.ty et) (ev E s x)]) (m := [a.eval x]) ⟨_, _, rfl, hxn, rfl⟩
            · have hne : n < es.size := by
                have := (List.getElem?_eq_some_iff.1 h8).1
                simpa using this
              have hsb := same_bits rowk hk4 hk1 hk3 (hd1 _ (List.mem_of_getElem? h9)) hk h13 h11 9999
              rw [Nat.zero_add] at h6
              refine main (es.modify n fun e => { e with key := a.eval k, val := a.eval x }) clk _ _ ?_ (h14 _) ?_ ?_ ?_ ?_
              · have h8' : es[n]? = some e := by simpa using h8
                simp [Instr.mapUpdate, hm, run_underlying hu, MapKept.run_getObj_map hb, hck, hf2, h6, h8', Instr.keyThatStays, hsb, MapKept.run_setObj_map _ hb, Result.andThen]
              · intro k' hk'
                rcases List.mem_or_eq_of_mem_set hk' with h | h
                · exact hd1 _ h
                · rw [h]; exact hk3
              · intro v' hv'
                rcases List.mem_or_eq_of_mem_set hv' with h | h
                · exact hd2 _ h
                · rw [h]; exact fx
              · rw [map_modify _ _ es n (a.eval k) hne (fun _ => rfl)]
                exact hrk.setAt hkn n
              · rw [map_modify _ _ es n (a.eval x) hne (fun _ => rfl)]
                exact hrv.setAt hxn n
          · simp [Tr.eval] at he
        · simp [Tr.eval] at he
      · simp [Tr.eval] at he
    · simp [Tr.eval] at he
  · simp [Tr.eval] at he
end
end Go.AH

namespace Go.AH
open Go Go.RowKit

theorem hOf_get : ∀ (os : List Ob) (k : Nat), hOf os k = (os[k]?).getD .dead
  | [], k => by simp [hOf]
  | o :: os, 0 => by simp [hOf]
  | o :: os, k + 1 => by simp [hOf, hOf_get os k]
theorem pos_get : ∀ {p : List Nat} {i k : Nat}, pos p i = some k → p[k]? = some i
  | [], _, _, h => by simp [pos] at h
  | j :: r, i, k, h => by
    unfold pos at h
    split at h
    · rename_i hb
      simp at h
      subst h
      simp [nat_of_beq hb]
    · cases hq : pos r i with
      | none => simp [hq] at h
      | some k' =>
        simp [hq] at h
        subst h
        simpa using pos_get hq
theorem pos_mem : ∀ {p : List Nat} {i : Nat}, i ∈ p → ∃ k, pos p i = some k
  | [], i, h => by cases h
  | j :: r, i, h => by
    unfold pos
    cases hb : Nat.beq i j with
    | true => exact ⟨0, rfl⟩
    | false =>
      rcases List.mem_cons.1 h with h | h
      · subst h; rw [show Nat.beq i i = true from Nat.beq_refl i] at hb; cases hb
      · obtain ⟨k, hk⟩ := pos_mem h
        exact ⟨k + 1, by simp [hk]⟩

theorem addNew_prefix : ∀ (l seen : List Nat), ∃ t, addNew seen l = seen ++ t
  | [], seen => ⟨[], by simp [addNew]⟩
  | i :: r, seen => by
    unfold addNew
    split
    · exact addNew_prefix r seen
    · obtain ⟨t, ht⟩ := addNew_prefix r (seen ++ [i])
      exact ⟨i :: t, by rw [ht]; simp⟩
theorem addNew_nodup : ∀ (l seen : List Nat), seen.Nodup → (addNew seen l).Nodup
  | [], seen, h => h
  | i :: r, seen, h => by
    unfold addNew
    split
    · exact addNew_nodup r seen h
    · rename_i hc
      refine addNew_nodup r _ ?_
      rw [List.nodup_append]
      refine ⟨h, by simp, ?_⟩
      intro a ha b hb
      simp at hb
      subst hb
      intro he
      subst he
      have : seen.contains a = true := by simpa using ha
      rw [this] at hc
      cases hc
theorem addNew_append : ∀ (l m seen : List Nat), addNew seen (l ++ m) = addNew (addNew seen l) m
  | [], m, seen => rfl
  | i :: r, m, seen => by
    have e1 : addNew seen (i :: (r ++ m)) = (match seen.contains i with | true => addNew seen (r ++ m) | false => addNew (seen ++ [i]) (r ++ m)) := rfl
    have e2 : addNew seen (i :: r) = (match seen.contains i with | true => addNew seen r | false => addNew (seen ++ [i]) r) := rfl
    rw [List.cons_append, e1, e2]
    split <;> exact addNew_append r m _
theorem addNew_mem : ∀ (l seen : List Nat) (i : Nat), (i ∈ seen ∨ i ∈ l) → i ∈ addNew seen l
  | [], seen, i, h => by simpa [addNew] using h
  | j :: r, seen, i, h => by
    unfold addNew
    split
    · rename_i hc
      refine addNew_mem r seen i ?_
      rcases h with h | h
      · exact .inl h
      · rcases List.mem_cons.1 h with rfl | h
        · exact .inl (by simpa using hc)
        · exact .inr h
    · refine addNew_mem r _ i ?_
      rcases h with h | h
      · exact .inl (by simp [h])
      · rcases List.mem_cons.1 h with rfl | h
        · exact .inl (by simp)
        · exact .inr h
theorem addNew_fresh : ∀ (l seen : List Nat), (seen ++ l).Nodup → addNew seen l = seen ++ l
  | [], seen, _ => by simp [addNew]
  | i :: r, seen, h => by
    unfold addNew
    have hc : seen.contains i = false := by
      cases hq : seen.contains i with
      | false => rfl
      | true =>
        have hi : i ∈ seen := by simpa using hq
        rw [List.nodup_append] at h
        exact absurd rfl (h.2.2 i hi i (by simp))
    rw [hc]
    simp only
    rw [addNew_fresh r (seen ++ [i]) (by simpa using h)]
    simp
theorem reachGo_prefix (h : Nat → Ob) : ∀ (n : Nat) (seen : List Nat) (k : Nat), ∃ t, reachGo h n seen k = seen ++ t
  | 0, seen, k => ⟨[], by simp [reachGo]⟩
  | n + 1, seen, k => by
    unfold reachGo
    split
    · exact ⟨[], by simp⟩
    · rename_i i hi
      obtain ⟨t, ht⟩ := addNew_prefix (h i).refs seen
      obtain ⟨u, hu⟩ := reachGo_prefix h n (addNew seen (h i).refs) (k + 1)
      exact ⟨t ++ u, by rw [hu, ht, List.append_assoc]⟩
theorem reachGo_nodup (h : Nat → Ob) : ∀ (n : Nat) (seen : List Nat) (k : Nat), seen.Nodup → (reachGo h n seen k).Nodup
  | 0, seen, k, hn => hn
  | n + 1, seen, k, hn => by
    unfold reachGo
    split
    · exact hn
    · exact reachGo_nodup h n _ _ (addNew_nodup _ _ hn)
theorem reach_nodup (h : Nat → Ob) (l : List Nat) : (reach h l).Nodup := reachGo_nodup h _ _ _ (addNew_nodup _ _ List.nodup_nil)
theorem reach_mem (h : Nat → Ob) (l : List Nat) {i : Nat} (hi : i ∈ l) : i ∈ reach h l := by
  obtain ⟨t, ht⟩ := reachGo_prefix h 64 (addNew [] l) 0
  unfold reach
  rw [ht]
  exact List.mem_append_left _ (addNew_mem l [] i (.inr hi))
theorem reach_range (h : Nat → Ob) (m : Nat) (l : List Nat) {i : Nat} (hi : i < m) : (reach h (List.range m ++ l))[i]? = some i := by
  obtain ⟨t, ht⟩ := reachGo_prefix h 64 (addNew [] (List.range m ++ l)) 0
  unfold reach
  rw [ht, addNew_append, addNew_fresh (List.range m) [] (by simpa using List.nodup_range)]
  obtain ⟨u, hu⟩ := addNew_prefix l ([] ++ List.range m)
  rw [hu, List.nil_append, List.append_assoc, List.getElem?_append_left (by simpa using hi)]
  simp [hi]

section
variable {T : TypeId → Ty} {G : Nat → V} {Z Z' : Nat → Prop} {h h' h'' : Nat → Ob} {β β' β'' : Nat → Loc} {w w' w'' : World} {δ : Nat → Nat → Nat} {ids : List Nat} {m : Nat}

def reL (β : Nat → Loc) (ids : List Nat) (k : Nat) : Loc := match ids[k]? with | some i => β i | none => default
noncomputable def reH (h : Nat → Ob) (δ : Nat → Nat → Nat) (ids : List Nat) : Nat → Ob := hOf (reO h δ ids)
theorem reH_some {k i : Nat} (hk : ids[k]? = some i) : reH h δ ids k = (h i).ren (renRef (pos ids) (genAt h δ)) (δ i) := by
  rw [reH, hOf_get, reO, List.getElem?_map, hk]
  rfl
theorem reH_none {k : Nat} (hk : ids[k]? = none) : reH h δ ids k = .dead := by
  rw [reH, hOf_get, reO, List.getElem?_map, hk]
  rfl
theorem reL_some {k i : Nat} (hk : ids[k]? = some i) : reL β ids k = β i := by
  rw [reL, hk]
theorem ren_rw (o : Ob) (φ : V → V) (g : Nat → Nat) : (o.ren φ g).rw = o.rw := by cases o <;> rfl
theorem ren_alive (o : Ob) (φ : V → V) (g : Nat → Nat) : (o.ren φ g).alive = o.alive := by cases o <;> rfl
theorem reMine {k : Nat} (hm : Mine (reH h δ ids) (reL β ids) k) : ∃ i, ids[k]? = some i ∧ Mine h β i ∧ (reL β ids k).b = (β i).b := by
  cases hk : ids[k]? with
  | none =>
    obtain ⟨h1, _⟩ := hm
    rw [reH_none hk] at h1
    cases h1
  | some i =>
    obtain ⟨h1, h2⟩ := hm
    rw [reH_some hk, ren_rw] at h1
    rw [reL_some hk] at h2 ⊢
    exact ⟨i, rfl, ⟨h1, h2⟩, rfl⟩
theorem reMine' {k i : Nat} (hk : ids[k]? = some i) (hm : Mine h β i) : Mine (reH h δ ids) (reL β ids) k := by
  refine ⟨?_, ?_⟩
  · rw [reH_some hk, ren_rw]; exact hm.1
  · rw [reL_some hk]; exact hm.2
/-- References named anew. -/
theorem RefRep.re {O : Nat → Prop} {r : V} {y : Value} (hr : RefRep T h β r y) : Rep T w O (renRef (pos ids) (genAt h δ) r) (RefRep T (reH h δ ids) (reL β ids)) y := by
  cases r with
  | box i j =>
    obtain ⟨⟨ro, cs, e⟩, hy⟩ := hr
    cases hp : pos ids i with
    | none => simp only [renRef, hp]; exact trivial
    | some k =>
      have hk := pos_get hp
      simp only [renRef, hp]
      exact ⟨⟨ro, _, by rw [reH_some hk, e]; rfl⟩, by rw [reL_some hk]; exact hy⟩
  | full t i g n =>
    obtain ⟨ro, g', t', vs, e, hg, hsl, hx⟩ := hr
    cases hp : pos ids i with
    | none => simp only [renRef, hp]; exact trivial
    | some k =>
      have hk := pos_get hp
      cases hb : Nat.beq g g' with
      | false => simp only [renRef, hp, genAt, e, hb]; exact trivial
      | true =>
        simp only [renRef, hp, genAt, e, hb]
        exact ⟨ro, δ i g', t', vs, by rw [reH_some hk, e]; rfl, Nat.le_refl _, hsl, fun _ => by rw [reL_some hk]; exact hx (nat_of_beq hb)⟩
  | sub t i g o n =>
    obtain ⟨ro, g', t', vs, e, hg, hsl, hx⟩ := hr
    cases hp : pos ids i with
    | none => simp only [renRef, hp]; exact trivial
    | some k =>
      have hk := pos_get hp
      cases hb : Nat.beq g g' with
      | false => simp only [renRef, hp, genAt, e, hb]; exact trivial
      | true =>
        simp only [renRef, hp, genAt, e, hb]
        exact ⟨ro, δ i g', t', vs, by rw [reH_some hk, e]; rfl, Nat.le_refl _, hsl, fun _ => by rw [reL_some hk]; exact hx (nat_of_beq hb)⟩
  | elt i g a j =>
    obtain ⟨ro, g', t', vs, e, hg, hsl, hx⟩ := hr
    cases hp : pos ids i with
    | none => simp only [renRef, hp]; exact trivial
    | some k =>
      have hk := pos_get hp
      cases hb : Nat.beq g g' with
      | false => simp only [renRef, hp, genAt, e, hb]; exact trivial
      | true =>
        simp only [renRef, hp, genAt, e, hb]
        exact ⟨ro, δ i g', t', vs, by rw [reH_some hk, e]; rfl, Nat.le_refl _, hsl, fun _ => by rw [reL_some hk]; exact hx (nat_of_beq hb)⟩
  | mref i =>
    obtain ⟨⟨ro, t, ks, vs, e⟩, hy⟩ := hr
    cases hp : pos ids i with
    | none => simp only [renRef, hp]; exact trivial
    | some k =>
      have hk := pos_get hp
      simp only [renRef, hp]
      exact ⟨⟨ro, _, _, _, by rw [reH_some hk, e]; rfl⟩, by rw [reL_some hk]; exact hy⟩
  | itr i =>
    obtain ⟨⟨ro, s, k0, e⟩, hy⟩ := hr
    cases hp : pos ids i with
    | none => simp only [renRef, hp]; exact trivial
    | some k =>
      have hk := pos_get hp
      simp only [renRef, hp]
      exact ⟨⟨ro, _, _, by rw [reH_some hk, e]; rfl⟩, by rw [reL_some hk]; exact hy⟩
  | bsl t i n =>
    obtain ⟨⟨ro, cs, e⟩, hy⟩ := hr
    cases hp : pos ids i with
    | none => simp only [renRef, hp]; exact trivial
    | some k =>
      have hk := pos_get hp
      simp only [renRef, hp]
      exact ⟨⟨ro, _, by rw [reH_some hk, e]; rfl⟩, by rw [reL_some hk]; exact hy⟩
  | _ => exact hr.elim
/-- A set of blocks to be left alone made smaller. -/
theorem Kept.less {O O' : Nat → Prop} (hO : ∀ b, O' b → O b) : Kept w w O O' := ⟨Nat.le_refl _, fun _ _ _ => rfl, fun b _ h h' => h (hO b h')⟩
theorem Rep.re {O O' : Nat → Prop} {v : V} {x : Value} (hO : ∀ b, O' b → O b) (hr : Rep T w O v (RefRep T h β) x) : Rep T w O' (reV h δ ids v) (RefRep T (reH h δ ids) (reL β ids)) x := by
  unfold reV
  rw [V.mapRefF_eq]
  exact Rep.mapRef v _ _ x (fun _ _ h => h.re) (Rep.kept (Kept.less hO) v _ _ x (fun _ _ h => h) hr)
theorem ObRep.re {O O' : Nat → Prop} {l : Loc} {o : Ob} (hO : ∀ b, O' b → O b) (g : Nat → Nat) (hr : ObRep T w O (RefRep T h β) l o) : ObRep T w O' (RefRep T (reH h δ ids) (reL β ids)) l (o.ren (renRef (pos ids) (genAt h δ)) g) := by
  have hr := hr.kept (w' := w) (O' := O') (R' := RefRep T h β) (Kept.less hO) (fun _ _ h => h) (fun _ => rfl)
  cases o with
  | dead => trivial
  | box ro cs =>
    obtain ⟨hn, arr, e, h1, h2⟩ := hr
    exact ⟨hn, arr, e, h1, by rw [V.mapRefsF_eq, mapRefs_len]; exact RepL.mapRef cs _ _ _ (fun _ _ h => RefRep.re h) h2⟩
  | row ro g t vs => exact hr
  | dict ro t ks vs => exact hr
  | sit ro s k => exact hr
theorem reOwn (hZ : ∀ b, Z' b → Own Z h β b) (b : Nat) (ho : Own Z' (reH h δ ids) (reL β ids) b) : Own Z h β b := by
  rcases ho with hz | ⟨k, hk, e⟩
  · exact hZ b hz
  · obtain ⟨i, _, hi, he⟩ := reMine hk
    exact .inr ⟨i, hi, he.symm.trans e⟩
theorem Cx.re (cx : Cx T G Z h β w) (hnd : ids.Nodup) (hZ : ∀ b, Z' b → Own Z h β b) (hzlt : ∀ b, Z' b → b < w.heap.size) (hzown : ∀ i ∈ ids, Mine h β i → ¬ Z' (β i).b) : Cx T G Z' (reH h δ ids) (reL β ids) w := {
  ob := fun k => by
    cases hk : ids[k]? with
    | none => rw [reH_none hk]; trivial
    | some i =>
      rw [reH_some hk, reL_some hk]
      exact (cx.ob i).re (reOwn hZ) _
  ro := fun k ha hr hn ho => by
    cases hk : ids[k]? with
    | none => rw [reH_none hk] at ha; cases ha
    | some i =>
      rw [reH_some hk, ren_alive] at ha
      rw [reH_some hk, ren_rw] at hr
      rw [reL_some hk] at hn ho
      exact cx.ro i ha hr hn (reOwn hZ _ ho)
  inj := fun a b hab ha hb => by
    obtain ⟨i, hi, mi, ei⟩ := reMine ha
    obtain ⟨j, hj, mj, ej⟩ := reMine hb
    rw [ei, ej]
    refine cx.inj i j (fun e => hab ?_) mi mj
    subst e
    obtain ⟨h1, h2⟩ := List.getElem?_eq_some_iff.1 hi
    obtain ⟨h3, h4⟩ := List.getElem?_eq_some_iff.1 hj
    exact (List.getElem_inj hnd).1 (h2.trans h4.symm)
  zlt := hzlt
  zown := fun k hk hz => by
    obtain ⟨i, hi, mi, ei⟩ := reMine hk
    rw [ei] at hz
    exact hzown i (List.mem_of_getElem? hi) mi hz
  glob := fun g => Rep.kept (Kept.less (reOwn hZ)) _ _ _ _ (fun _ _ h => h) (cx.glob g) }

/-- What has happened since a function's begin: of its own objects alone. -/
structure Wk (m : Nat) (h : Nat → Ob) (β : Nat → Loc) (w : World) (h' : Nat → Ob) (β' : Nat → Loc) (w' : World) : Prop where
  os : w'.os = w.os
  tape : w'.tape = w.tape
  output : w'.output = w.output
  size : w.heap.size ≤ w'.heap.size
  frame : ∀ b, b < w.heap.size → (∀ i, Mine h β i → (β i).b ≠ b) → w'.heap[b]? = w.heap[b]?
  fresh : ∀ i, Mine h' β' i → (∃ k, Mine h β k ∧ (β k).b = (β' i).b) ∨ w.heap.size ≤ (β' i).b
  hd : ∀ i, i < m → Hd (h i) (β i) (h' i) (β' i)
theorem Stp.wk (s : Stp h β w h' β' w') : Wk m h β w h' β' w' := ⟨s.os, s.tape, s.output, s.size, s.frame, s.fresh, fun i _ => s.hd i⟩
theorem Wk.refl : Wk m h β w h β w := Stp.refl.wk
theorem Wk.trans (a : Wk m h β w h' β' w') (b : Wk m h' β' w' h'' β'' w'') : Wk m h β w h'' β'' w'' := {
  os := b.os.trans a.os
  tape := b.tape.trans a.tape
  output := b.output.trans a.output
  size := Nat.le_trans a.size b.size
  frame := fun k hk hn => (b.frame k (Nat.lt_of_lt_of_le hk a.size) (fun i hi he => by
    rcases a.fresh i hi with ⟨j, hj, e⟩ | e
    · exact hn j hj (e.trans he)
    · omega)).trans (a.frame k hk hn)
  fresh := fun i hi => by
    rcases b.fresh i hi with ⟨j, hj, e⟩ | e
    · rcases a.fresh j hj with ⟨k, hk, e'⟩ | e'
      · exact .inl ⟨k, hk, e'.trans e⟩
      · exact .inr (by rw [← e]; exact e')
    · exact .inr (Nat.le_trans a.size e)
  hd := fun i hi => (a.hd i hi).trans (b.hd i hi) }
/-- Rows that were there at the begin had generation 0. -/
def New (h : Nat → Ob) : Prop := ∀ i ro g t vs, h i = .row ro g t vs → g = 0
theorem Wk.re (a : Wk m h β w h' β' w') (hn : New h) (hpre : ∀ i, i < m → ids[i]? = some i) (hδ : ∀ i g, i < m → δ i g = 0 → g = 0) : Wk m h β w (reH h' δ ids) (reL β' ids) w' := {
  os := a.os
  tape := a.tape
  output := a.output
  size := a.size
  frame := a.frame
  fresh := fun k hk => by
    obtain ⟨i, hi, mi, ei⟩ := reMine hk
    rw [ei]
    exact a.fresh i mi
  hd := fun i hi => by
    rw [reH_some (hpre i hi), reL_some (hpre i hi)]
    have h1 := a.hd i hi
    cases hq : h i with
    | dead => trivial
    | box ro cs =>
      rw [hq] at h1
      obtain ⟨⟨ro', cs', e⟩, h2⟩ := h1
      rw [e]
      exact ⟨⟨_, _, rfl⟩, h2⟩
    | row ro g t vs =>
      rw [hq] at h1
      obtain ⟨ro', g', t', vs', e, hg, h2⟩ := h1
      have hg0 := hn i ro g t vs hq
      subst hg0
      rw [e]
      exact ⟨_, _, _, _, rfl, Nat.zero_le _, fun h3 => h2 (hδ i g' hi h3.symm).symm⟩
    | dict ro t ks vs =>
      rw [hq] at h1
      obtain ⟨⟨ro', t', ks', vs', e⟩, h2⟩ := h1
      rw [e]
      exact ⟨⟨_, _, _, _, rfl⟩, h2⟩
    | sit ro s k =>
      rw [hq] at h1
      obtain ⟨⟨ro', s', k', e⟩, h2⟩ := h1
      rw [e]
      exact ⟨⟨_, _, _, rfl⟩, h2⟩ }
end
end Go.AH

namespace Go.AH
open Go Go.RowKit

section
variable {P : Program} {T : TypeId → Ty} {G : Nat → V} {Z Z' : Nat → Prop} {h view h' : Nat → Ob} {β β' : Nat → Loc} {w w' : World} {O O' : Nat → Prop} {R R' : V → Value → Prop}

theorem RepSeq.less (hO : ∀ b, O' b → O b) {vs : List V} {t b o : Nat} (hr : RepSeq T w O vs t b o) : RepSeq T w O' vs t b o := RepSeq.kept (Kept.less hO) vs t b o rfl hr
theorem RepL.mapTree {f : V → V} : ∀ {vs : List V} {l : List Value}, RepL T w O vs R l → (∀ v ∈ vs, ∀ x, Rep T w O v R x → Rep T w O' (f v) R' x) → RepL T w O' (vs.map f) R' l
  | [], _, h, _ => h
  | v :: vs, _, ⟨x, r, e, h1, h2⟩, hf => ⟨x, r, e, hf v (by simp) x h1, RepL.mapTree h2 (fun u hu => hf u (by simp [hu]))⟩
theorem refsL_mem : ∀ {vs : List V} {v : V} {i : Nat}, v ∈ vs → i ∈ v.refs → i ∈ V.refsL vs
  | u :: vs, v, i, hv, hi => by
    rw [V.refsL, List.mem_append]
    rcases List.mem_cons.1 hv with rfl | hv
    · exact .inl hi
    · exact .inr (refsL_mem hv hi)

theorem isForm_agg (k : Kd) (cs : List V) : isForm k (.agg cs) = false := by cases k <;> rfl
theorem pack_cells {ty : Ty} {L : List V} (hf : isFormT ty (pack ty.agg L) = true) (hl : ty.agg = false → L.length = 1) : (pack ty.agg L).cells = L := by
  cases ha : ty.agg with
  | true => rfl
  | false =>
    have h1 := hl ha
    rw [ha] at hf
    match L, h1 with
    | [v], _ =>
      show V.cells v = [v]
      have hf' : isFormT ty v = true := hf
      unfold isFormT at hf'
      rw [ha] at hf'
      simp only at hf'
      split at hf'
      · cases v with
        | agg cs => rw [isForm_agg] at hf'; simp at hf'
        | _ => rfl
      · simp at hf'
theorem chunks_rep {t : TypeId} (row : Row P t (T t)) {b : Nat} : ∀ (m : Nat) (cs : List V) (l : List Value) (o : Nat), RepL T w O cs noR l → Lies w b o l → cs.length = m * (T t).size → (chunksV (T t) m cs).all (isFormT (T t)) = true → RepSeq T w O ((chunksV (T t) m cs).map (etaT (T t))) t b o
  | 0, _, _, _, _, _, _, _ => trivial
  | m + 1, cs, l, o, hr, hl, hn, hf => by
    rw [chunksV, List.all_cons, Bool.and_eq_true] at hf
    rw [chunksV, List.map_cons]
    have hlen := hr.length
    have hsz : (T t).size ≤ cs.length := by rw [hn, Nat.add_mul]; omega
    have hone : (T t).agg = false → (cs.take (T t).size).length = 1 := fun ha => by
      have := (row.one ha).1
      rw [List.length_take, this]
      omega
    have hc := pack_cells hf.1 hone
    obtain ⟨g1, g2⟩ := rep_mkVal row (v := pack (T t).agg (cs.take (T t).size)) (R := noR) (cs := l.take (T t).size) hf.1 (by rw [hc]; exact hr.take _)
    have hform : isFormT (T t) (etaT (T t) (pack (T t).agg (cs.take (T t).size))) = true := form_etaT hf.1
    refine ⟨⟨hform, etaT_etaT _ _⟩, ⟨l.take (T t).size, g2, hl.take _, g1.etaT hf.1⟩, ?_⟩
    exact chunks_rep row m (cs.drop (T t).size) (l.drop (T t).size) (o + (T t).size) (hr.drop _) (hl.drop _) (by rw [List.length_drop, hn, Nat.add_mul]; omega) hf.2
theorem chunksV_len (ty : Ty) : ∀ (m : Nat) (cs : List V), (chunksV ty m cs).length = m
  | 0, _ => rfl
  | m + 1, cs => by rw [chunksV, List.length_cons, chunksV_len]
theorem toTree_sound (hT : TyOk P T) (cx : Cx T G Z h β w) (hv : Sees view h) (hO : ∀ b, O' b → Own Z h β b) {S : List Nat} (hS : ∀ i ∈ S, ∀ j ∈ (view i).refs, j ∈ S) (hav : ∀ i ∈ S, (h i).alive = true → (β i).nil = false → ¬ O' (β i).b) :
    ∀ (n : Nat) (v : V) (x : Value) (R : V → Value → Prop), (∀ i ∈ v.refs, i ∈ S) → Rep T w (Own Z h β) v (RefRep T h β) x → Rep T w O' (toTree T view n v) R x
  | 0, _, _, _, _, _ => trivial
  | n + 1, v, x, R, hsv, hr => by
    rw [toTree, V.mapRefF_eq]
    have h1 := Rep.refs v _ (fun r y => RefRep T h β r y ∧ ∀ i ∈ r.refs, i ∈ S) x (fun r y hi h => ⟨h, fun i hir => hsv i (hi i hir)⟩) hr
    refine Rep.mapRef v _ _ x (fun r y hy => ?_) (Rep.kept (Kept.less hO) v _ _ x (fun _ _ h => h) h1)
    obtain ⟨hy, hS2⟩ := hy
    cases r with
    | full t i g m =>
      have hiS := hS2 i (by simp [V.refs])
      obtain ⟨ro, g', t', vs, e, hg, hsl, hx⟩ := hy
      simp only
      cases hq : view i with
      | row ro2 g2 t2 vs2 =>
        have hib := hv.at_ hq (by simp)
        rw [e] at hib
        simp only [Ob.row.injEq] at hib
        obtain ⟨rfl, rfl, rfl, rfl⟩ := hib
        simp only
        cases hb : Nat.beq g g' with
        | false => exact trivial
        | true =>
          obtain ⟨rfl, rfl, rfl⟩ := hx (nat_of_beq hb)
          have hob := cx.ob i
          rw [e] at hob
          obtain ⟨_, ⟨h2, rfl, h3⟩ | ⟨h2, cur, h3, h4, _, _, h5⟩⟩ := hob
          · exact ⟨_, _, rfl, by simp, .inl rfl⟩
          · exact ⟨_, _, rfl, h4, .inr ⟨(β i).b, (β i).off, by simp [Loc.addr, h2], (Array.getElem?_eq_some_iff.1 h3).1, hav i hiS (by rw [e]; rfl) h2, h5.less hO⟩⟩
      | _ => exact trivial
    | sub t i g o m =>
      have hiS := hS2 i (by simp [V.refs])
      obtain ⟨ro, g', t', vs, e, hg, hsl, hx⟩ := hy
      simp only
      cases hq : view i with
      | row ro2 g2 t2 vs2 =>
        have hib := hv.at_ hq (by simp)
        rw [e] at hib
        simp only [Ob.row.injEq] at hib
        obtain ⟨rfl, rfl, rfl, rfl⟩ := hib
        simp only
        cases hb : Nat.beq g g' with
        | false => exact trivial
        | true =>
          obtain ⟨rfl, hom, ad, rfl, hx2⟩ := hx (nat_of_beq hb)
          have hob := cx.ob i
          rw [e] at hob
          have hlen : ((vs.drop o).take m).length = m := by simp; omega
          obtain ⟨_, ⟨h2, rfl, h3⟩ | ⟨h2, cur, h3, h4, _, _, h5⟩⟩ := hob
          · simp at hom
            obtain ⟨_, rfl⟩ := hom
            exact ⟨_, _, rfl, by simp, .inl (by simp)⟩
          · refine ⟨ad, (β i).cap - o, by rw [hlen], by rw [hlen]; omega, ?_⟩
            by_cases hm : m = 0
            · subst hm; exact .inl (by simp)
            · refine .inr ⟨(β i).b, (β i).off + o * (T t').size, hx2 (by omega), (Array.getElem?_eq_some_iff.1 h3).1, hav i hiS (by rw [e]; rfl) h2, ?_⟩
              exact (RepSeq.part vs o m h5).less hO
      | _ => exact trivial
    | elt i g k j =>
      have hiS := hS2 i (by simp [V.refs])
      obtain ⟨ro, g', t', vs, e, hg, hsl, hx⟩ := hy
      simp only
      cases hq : view i with
      | row ro2 g2 t2 vs2 =>
        have hib := hv.at_ hq (by simp)
        rw [e] at hib
        simp only [Ob.row.injEq] at hib
        obtain ⟨rfl, rfl, rfl, rfl⟩ := hib
        simp only
        cases hb : Nat.beq g g' with
        | false => exact trivial
        | true =>
          obtain ⟨hk, rfl⟩ := hx (nat_of_beq hb)
          have hob := cx.ob i
          rw [e] at hob
          obtain ⟨ht, ⟨h2, rfl, h3⟩ | ⟨h2, cur, h3, h4, _, _, h5⟩⟩ := hob
          · simp at hk
          · have hkk : vs[k]? = some vs[k] := List.getElem?_eq_getElem hk
            obtain ⟨f1, f2, cs', h6, h7, h8⟩ := RepSeq.get h5 hkk
            have hgd : vs.getD k .top = vs[k] := by rw [List.getD_eq_getElem?_getD, hkk]; rfl
            rw [hgd, f2]
            refine ⟨(β i).b, (β i).off + (k * (T t').size + j), cs'.drop j, rfl, (Array.getElem?_eq_some_iff.1 h3).1, hav i hiS (by rw [e]; rfl) h2, ?_, ?_⟩
            · have := h7.drop j
              rwa [Nat.add_assoc] at this
            · exact (RepL.kept (Kept.less hO) _ _ _ _ (fun _ _ h => h) (mkVal_rep (hT.row ht) f1 h6 h8)).drop j
      | _ => exact trivial
    | box i j =>
      have hiS := hS2 i (by simp [V.refs])
      obtain ⟨⟨ro, cs, e⟩, rfl⟩ := hy
      simp only
      cases hq : view i with
      | box ro2 cs2 =>
        have hib := hv.at_ hq (by simp)
        rw [e] at hib
        simp only [Ob.box.injEq] at hib
        obtain ⟨rfl, rfl⟩ := hib
        have hob := cx.ob i
        rw [e] at hob
        obtain ⟨h2, arr, ee, h3, h4⟩ := hob
        have hsub := hS i hiS
        rw [hq] at hsub
        refine ⟨(β i).b, j, (arr.toList.take cs.length).drop j, rfl, (Array.getElem?_eq_some_iff.1 h3).1, hav i hiS (by rw [e]; rfl) h2, ?_, ?_⟩
        · have := ((Lies.of_block h3).take cs.length).drop j
          rwa [Nat.zero_add] at this
        · refine RepL.mapTree (R := RefRep T h β) (h4.drop j) (fun v hvm x hx => ?_)
          exact toTree_sound hT cx hv hO hS hav n v x noR (fun a ha => hsub a (by show a ∈ V.refsLF cs; rw [V.refsLF_eq]; exact refsL_mem (List.mem_of_mem_drop hvm) ha)) hx
      | _ => exact trivial
    | mref i =>
      have hiS := hS2 i (by simp [V.refs])
      obtain ⟨⟨ro, t, ks, vs, e⟩, rfl⟩ := hy
      simp only
      cases hq : view i with
      | dict ro2 t2 ks2 vs2 =>
        have hib := hv.at_ hq (by simp)
        rw [e] at hib
        simp only [Ob.dict.injEq] at hib
        obtain ⟨rfl, rfl, rfl, rfl⟩ := hib
        have hob := cx.ob i
        rw [e] at hob
        obtain ⟨h2, hd, es, clk, h3, h4, h5⟩ := hob
        exact ⟨(β i).b, es, clk, rfl, (Array.getElem?_eq_some_iff.1 h3).1, hav i hiS (by rw [e]; rfl) h2, h3, hd, RepL.kept (Kept.less hO) _ _ _ _ (fun _ _ h => h) h4, RepL.kept (Kept.less hO) _ _ _ _ (fun _ _ h => h) h5⟩
      | _ => exact trivial
    | itr i => exact trivial
    | bsl t i m =>
      have hiS := hS2 i (by simp [V.refs])
      obtain ⟨⟨ro, cs, e⟩, cap, hcap, rfl⟩ := hy
      simp only
      cases hq : view i with
      | box ro2 cs2 =>
        have hib := hv.at_ hq (by simp)
        rw [e] at hib
        simp only [Ob.box.injEq] at hib
        obtain ⟨rfl, rfl⟩ := hib
        have hob := cx.ob i
        rw [e] at hob
        obtain ⟨h2, arr, ee, h3, h4⟩ := hob
        have hsub := hS i hiS
        rw [hq] at hsub
        have h5 : RepL T w O' (cs.map (toTree T view n)) noR (arr.toList.take cs.length) := RepL.mapTree (R := RefRep T h β) h4 (fun v hvm x hx => toTree_sound hT cx hv hO hS hav n v x noR (fun a ha => hsub a (by show a ∈ V.refsLF cs; rw [V.refsLF_eq]; exact refsL_mem hvm ha)) hx)
        simp only [bslTree]
        split
        · rename_i hc
          simp only [Bool.and_eq_true] at hc
          have h6 := chunks_rep (hT.row hc.1.1) (O := O') m _ _ 0 h5 ((Lies.of_block h3).take _) (nat_of_beq hc.1.2) hc.2
          exact ⟨_, cap, by rw [List.length_map, chunksV_len], by rw [List.length_map, chunksV_len]; exact hcap, .inr ⟨(β i).b, 0, rfl, (Array.getElem?_eq_some_iff.1 h3).1, hav i hiS (by rw [e]; rfl) h2, h6⟩⟩
        · exact trivial
      | _ => exact trivial
    | _ => exact hy.elim
end
end Go.AH

namespace Go.AH
open Go Go.RowKit

theorem updL_append {α : Type} : ∀ (a b : List (Nat × α)) (f : Nat → α), updL f (a ++ b) = updL (updL f a) b
  | [], _, _ => rfl
  | (i, x) :: a, b, f => updL_append a b (upd f i x)
theorem updL_not {α : Type} : ∀ (l : List (Nat × α)) (f : Nat → α) (i : Nat), (∀ p ∈ l, p.1 ≠ i) → updL f l i = f i
  | [], _, _, _ => rfl
  | (j, x) :: l, f, i, h => by
    rw [updL, updL_not l _ i (fun p hp => h p (by simp [hp])), upd_other]
    exact Ne.symm (h (j, x) (by simp))
theorem updL_get {α : Type} : ∀ (l : List (Nat × α)) (f : Nat → α) (n i : Nat) (x : α), l[n]? = some (i, x) → (∀ m y, l[m]? = some (i, y) → m = n) → updL f l i = x
  | [], _, _, _, _, h, _ => by simp at h
  | (j, y) :: l, f, 0, i, x, h, hu => by
    simp at h
    obtain ⟨rfl, rfl⟩ := h
    rw [updL, updL_not, upd_same]
    intro p hp he
    obtain ⟨m, hm⟩ := List.getElem?_of_mem hp
    obtain ⟨p1, p2⟩ := p
    simp only at he
    subst he
    have := hu (m + 1) p2 (by simpa using hm)
    omega
  | (j, y) :: l, f, n + 1, i, x, h, hu => by
    rw [updL]
    exact updL_get l _ n i x (by simpa using h) (fun m z hm => by have := hu (m + 1) z (by simpa using hm); omega)
theorem updL_map {α : Type} (F : Nat → α) : ∀ (l : List Nat) (f : Nat → α) (i : Nat), updL f (l.map fun i => (i, F i)) i = if i ∈ l then F i else f i
  | [], _, _ => by simp [updL]
  | j :: l, f, i => by
    rw [List.map_cons, updL, updL_map F l]
    by_cases hi : i ∈ l
    · simp [hi]
    · by_cases hj : i = j
      · subst hj; simp [hi, upd_same]
      · simp [hi, hj, upd_other]

section
variable {T : TypeId → Ty} {w w' : World} {O O' : Nat → Prop} {R R' : V → Value → Prop}
theorem plain_flat1 {k : Kd} {v : V} (hp : k.plain = true) (hf : isForm k v = true) : v.flat = true := by
  cases k <;> simp [Kd.plain] at hp <;> cases v <;> simp [isForm] at hf <;> rfl
theorem plain_flatL : ∀ {ks : List Kd} {cs : List V}, ks.all Kd.plain = true → isFormL ks cs = true → V.flatL cs = true
  | [], [], _, _ => rfl
  | [], _ :: _, _, h => by simp [isFormL] at h
  | _ :: _, [], _, h => by simp [isFormL] at h
  | k :: ks, c :: cs, hp, h => by
    rw [isFormL, Bool.and_eq_true] at h
    rw [List.all_cons, Bool.and_eq_true] at hp
    rw [V.flatL, plain_flat1 hp.1 h.1, plain_flatL hp.2 h.2]
    rfl
theorem plain_flat {ty : Ty} {v : V} (hp : ty.kinds.all Kd.plain = true) (hf : isFormT ty v = true) : v.flat = true := by
  obtain ⟨size, agg, bytes, kinds, d, eq⟩ := ty
  cases agg with
  | true =>
    cases v <;> simp [isFormT] at hf
    rw [V.flat, plain_flatL hp hf]
  | false =>
    match kinds, hp, hf with
    | [k], hp, hf => exact plain_flat1 (by simpa using hp) hf
    | [], _, hf => simp [isFormT] at hf
    | _ :: _ :: _, _, hf => simp [isFormT] at hf
theorem RepSeq.flat' {t : TypeId} {b : Nat} (hp : (T t).kinds.all Kd.plain = true) : ∀ {vs : List V} {o : Nat}, RepSeq T w O vs t b o → RepSeq T w O' vs t b o
  | [], _, _ => trivial
  | v :: vs, o, ⟨h1, ⟨cs, h2, h3, h4⟩, h5⟩ => ⟨h1, ⟨cs, h2, h3, Rep.flat v _ _ (plain_flat hp h1.1) h4⟩, RepSeq.flat' hp h5⟩
theorem RepL.flat_all : ∀ {vs : List V} {l : List Value}, (∀ v ∈ vs, v.flat = true) → RepL T w O vs R l → RepL T w O' vs R l
  | [], _, _, h => h
  | v :: vs, _, hf, ⟨x, r, e, h1, h2⟩ => ⟨x, r, e, Rep.flat v _ _ (hf v (by simp)) h1, RepL.flat_all (fun u hu => hf u (by simp [hu])) h2⟩
theorem ObRep.flat {o : Ob} {l : Loc} (hf : o.flatIn T = true) (hr : ObRep T w O R l o) : ObRep T w O' R l o := by
  cases o with
  | dead => trivial
  | box ro cs =>
    obtain ⟨hn, arr, e, h1, h2⟩ := hr
    exact ⟨hn, arr, e, h1, RepL.flat cs _ _ ((V.flatLF_eq cs).symm.trans hf) h2⟩
  | row ro g t vs =>
    obtain ⟨ht, h | ⟨hn, cur, h1, h2, h3, h4, h5⟩⟩ := hr
    · exact ⟨ht, .inl h⟩
    · exact ⟨ht, .inr ⟨hn, cur, h1, h2, h3, h4, h5.flat' hf⟩⟩
  | dict ro t ks vs =>
    obtain ⟨hn, hd, es, clk, h1, h2, h3⟩ := hr
    simp only [Ob.flatIn] at hf
    split at hf
    · rename_i k e hde
      rw [Bool.and_eq_true] at hf
      obtain ⟨d1, d2⟩ := hd k e hde
      exact ⟨hn, hd, es, clk, h1, h2.flat_all (fun v hv => plain_flat hf.1 (d1 v hv)), h3.flat_all (fun v hv => plain_flat hf.2 (d2 v hv).1)⟩
    · cases hf
  | sit ro s k => exact hr
theorem ObRep.ren {o : Ob} {l : Loc} {φ : V → V} (g : Nat → Nat) (hR : ∀ r y, R r y → Rep T w O (φ r) R' y) (hr : ObRep T w O R l o) : ObRep T w O R' l (o.ren φ g) := by
  cases o with
  | dead => trivial
  | box ro cs =>
    obtain ⟨hn, arr, e, h1, h2⟩ := hr
    exact ⟨hn, arr, e, h1, by rw [V.mapRefsF_eq, mapRefs_len]; exact RepL.mapRef cs _ _ _ hR h2⟩
  | row ro g t vs => exact hr
  | dict ro t ks vs => exact hr
  | sit ro s k => exact hr
theorem ObRep.setRo {o : Ob} {l : Loc} (hr : ObRep T w O R l o) : ObRep T w O R l o.setRo := by
  cases o <;> exact hr
end

/-- What is asked of a function's model. -/
structure Good (T : TypeId → Ty) (G : Nat → V) (Z : Nat → Prop) (m : Nat) (h : Nat → Ob) (β : Nat → Loc) (w : World) (v : V) (objs : List Ob) (β' : Nat → Loc) (w' : World) (x : Value) : Prop where
  cx : Cx T G Z (hOf objs) β' w'
  wk : Wk m h β w (hOf objs) β' w'
  rep : Rep T w' (Own Z (hOf objs) β') v (RefRep T (hOf objs) β') x

section
variable {T : TypeId → Ty} {G : Nat → V} {Z : Nat → Prop} {h view : Nat → Ob} {β : Nat → Loc} {w : World} {ids bor : List Nat} {fr : Nat}

theorem backId_lo {k i : Nat} (hk : ids[k]? = some i) : backId ids fr k = i := by rw [backId, hk]
theorem backId_hi {k : Nat} (hk : ids.length ≤ k) : backId ids fr k = fr + (k - ids.length) := by rw [backId, List.getElem?_eq_none hk]
theorem backOb_get : ∀ (objs : List Ob) (k n : Nat) (o : Ob), objs[n]? = some o → (backOb view ids fr k objs)[n]? = some (backId ids fr (k + n), o.ren (renRef (fun i => some (backId ids fr i)) (fun i g => some (g + backGen view ids i))) (· + backGen view ids (k + n)))
  | [], _, _, _, h => by simp at h
  | o :: r, k, 0, _, h => by simp at h; subst h; rfl
  | o :: r, k, n + 1, o', h => by
    rw [backOb, List.getElem?_cons_succ, backOb_get r (k + 1) n o' (by simpa using h)]
    rw [show k + 1 + n = k + (n + 1) from by omega]
theorem backOb_len : ∀ (objs : List Ob) (k : Nat), (backOb view ids fr k objs).length = objs.length
  | [], _ => rfl
  | o :: r, k => by rw [backOb, List.length_cons, backOb_len r, List.length_cons]

/-- Where the callee's objects lie now. -/
def backL (β β' : Nat → Loc) (ids : List Nat) (fr : Nat) (i : Nat) : Loc := match pos ids i with
  | some k => β' k
  | none => if fr ≤ i ∧ i < fr + 64 then β' (ids.length + (i - fr)) else β i
/-- What has been lent stays as it is, seen from what comes back. -/
noncomputable def lentOk (T : TypeId → Ty) (v : V) (objs : List Ob) : Bool := v.flat && objs.all (fun o => o.flatIn T && (o.rw || !o.alive))

/-- What the callee is not to touch. -/
def lent (Z : Nat → Prop) (h : Nat → Ob) (β : Nat → Loc) (ids bor : List Nat) (b : Nat) : Prop := Z b ∨ ∃ i, Mine h β i ∧ i ∉ ids ∧ i ∉ bor ∧ (β i).b = b

theorem call_back (cx : Cx T G Z h β w) (hv : Sees view h) (hnd : ids.Nodup) (hap : apart view ids bor = true) (hfr : ∀ i, fr ≤ i → i < fr + 64 → h i = .dead)
    {v : V} {objs : List Ob} {β' : Nat → Loc} {w' : World} {x : Value} (hlen : ids.length ≤ objs.length) (hlen2 : objs.length ≤ ids.length + 64)
    (gd : Good T G (lent Z h β ids bor) ids.length (reH h gen0 ids) (reL β ids) w v objs β' w' x) :
    Cx T G Z (updL h (backU T view ids bor fr v objs)) (backL β β' ids fr) w' ∧ Stp h β w (updL h (backU T view ids bor fr v objs)) (backL β β' ids fr) w' ∧
    Rep T w' (Own Z (updL h (backU T view ids bor fr v objs)) (backL β β' ids fr)) (backV view ids fr v) (RefRep T (updL h (backU T view ids bor fr v objs)) (backL β β' ids fr)) x ∧
    Touch h (updL h (backU T view ids bor fr v objs)) fr := by
  obtain ⟨H, hH⟩ : ∃ H, H = updL h (backU T view ids bor fr v objs) := ⟨_, rfl⟩
  rw [← hH]
  unfold apart at hap
  rw [Bool.and_eq_true, List.all_eq_true, List.all_eq_true] at hap
  obtain ⟨hal, hbo⟩ := hap
  have hids : ∀ i ∈ ids, view i = h i ∧ (h i).alive = true := fun i hi => by
    have h1 := hal i hi
    rcases hv i with h2 | h2
    · rw [h2] at h1; cases h1
    · exact ⟨h2, by rw [← h2]; exact h1⟩
  have hbor : ∀ i ∈ bor, view i = h i ∧ (h i).alive = true ∧ i ∉ ids := fun i hi => by
    have h1 := hbo i hi
    simp only [Bool.and_eq_true, Bool.not_eq_true'] at h1
    rcases hv i with h2 | h2
    · rw [h2] at h1; cases h1.1.1
    · exact ⟨h2, by rw [← h2]; exact h1.1.1, by simpa using h1.1.2⟩
  have hout : ∀ i, (h i).alive = true → ¬ (fr ≤ i ∧ i < fr + 64) := fun i ha hc => by rw [hfr i hc.1 hc.2] at ha; cases ha
  -- the numbers
  have hinj : ∀ a b, a < objs.length → b < objs.length → backId ids fr a = backId ids fr b → a = b := by
    intro a b ha hb he
    rcases Nat.lt_or_ge a ids.length with h1 | h1 <;> rcases Nat.lt_or_ge b ids.length with h2 | h2
    · rw [backId_lo (List.getElem?_eq_getElem h1), backId_lo (List.getElem?_eq_getElem h2)] at he
      exact (List.getElem_inj hnd).1 he
    · rw [backId_lo (List.getElem?_eq_getElem h1), backId_hi h2] at he
      exact absurd ⟨by omega, by omega⟩ (hout ids[a] (hids _ (List.getElem_mem h1)).2)
    · rw [backId_hi h1, backId_lo (List.getElem?_eq_getElem h2)] at he
      exact absurd ⟨by omega, by omega⟩ (hout ids[b] (hids _ (List.getElem_mem h2)).2)
    · rw [backId_hi h1, backId_hi h2] at he
      omega
  -- what is known of the new heap
  have hA : ∀ k o, objs[k]? = some o → H (backId ids fr k) = o.ren (renRef (fun i => some (backId ids fr i)) (fun i g => some (g + backGen view ids i))) (· + backGen view ids k) := by
    intro k o hk
    rw [hH, backU, updL_append]
    have h1 := backOb_get (view := view) (ids := ids) (fr := fr) objs 0 k o hk
    rw [Nat.zero_add] at h1
    refine updL_get _ _ k _ _ h1 (fun m y hm => ?_)
    have hml : m < objs.length := by rw [← backOb_len (view := view) (ids := ids) (fr := fr) objs 0]; exact (List.getElem?_eq_some_iff.1 hm).1
    have h2 := backOb_get (view := view) (ids := ids) (fr := fr) objs 0 m _ (List.getElem?_eq_getElem hml)
    rw [hm, Nat.zero_add] at h2
    simp only [Option.some.injEq, Prod.mk.injEq] at h2
    exact hinj m k hml (List.getElem?_eq_some_iff.1 hk).1 h2.1.symm
  have hB : ∀ i, (∀ k, k < objs.length → backId ids fr k ≠ i) → H i = h i ∧ (lentOk T v objs = true ∨ i ∉ bor) ∨ i ∈ bor ∧ lentOk T v objs = false ∧ H i = (h i).setRo := by
    intro i hi
    have h1 : ∀ f : Nat → Ob, updL f (backOb view ids fr 0 objs) i = f i := fun f => by
      refine updL_not _ _ _ (fun p hp he => ?_)
      obtain ⟨m, hm⟩ := List.getElem?_of_mem hp
      have hml : m < objs.length := by rw [← backOb_len (view := view) (ids := ids) (fr := fr) objs 0]; exact (List.getElem?_eq_some_iff.1 hm).1
      have h2 := backOb_get (view := view) (ids := ids) (fr := fr) objs 0 m _ (List.getElem?_eq_getElem hml)
      rw [hm, Nat.zero_add] at h2
      simp only [Option.some.injEq] at h2
      rw [h2] at he
      exact hi m hml he
    rw [hH, backU, updL_append, h1]
    rw [show freeze T view bor v objs = (match lentOk T v objs with | true => [] | false => bor.map fun i => (i, (view i).setRo)) from by unfold freeze lentOk; rw [V.flatF_eq]; rfl]
    cases hl : lentOk T v objs with
    | true => exact .inl ⟨rfl, .inl rfl⟩
    | false =>
      simp only
      rw [updL_map (fun i => (view i).setRo)]
      by_cases hib : i ∈ bor
      · rw [if_pos hib, (hbor i hib).1]
        exact .inr ⟨hib, trivial, rfl⟩
      · rw [if_neg hib]
        exact .inl ⟨rfl, .inr hib⟩
  have hLA : ∀ k, k < objs.length → backL β β' ids fr (backId ids fr k) = β' k := by
    intro k hk
    unfold backL
    rcases Nat.lt_or_ge k ids.length with h1 | h1
    · have h2 := List.getElem?_eq_getElem h1
      rw [backId_lo h2]
      obtain ⟨k', hk'⟩ := pos_mem (List.getElem_mem h1)
      rw [hk']
      have h3 := pos_get hk'
      obtain ⟨h4, h5⟩ := List.getElem?_eq_some_iff.1 h3
      rw [(List.getElem_inj hnd).1 h5]
    · rw [backId_hi h1]
      cases hp : pos ids (fr + (k - ids.length)) with
      | some k' =>
        have h3 := List.mem_of_getElem? (pos_get hp)
        exact absurd ⟨by omega, by omega⟩ (hout _ (hids _ h3).2)
      | none =>
        simp only
        rw [if_pos (by omega)]
        congr 1
        omega
  have hLB : ∀ i, (∀ k, k < objs.length → backId ids fr k ≠ i) → (h i).alive = true → backL β β' ids fr i = β i ∧ i ∉ ids := by
    intro i hi ha
    have hni : i ∉ ids := fun hm => by
      obtain ⟨n, hn, rfl⟩ := List.getElem_of_mem hm
      exact hi n (by omega) (backId_lo (List.getElem?_eq_getElem hn))
    refine ⟨?_, hni⟩
    unfold backL
    cases hp : pos ids i with
    | some k => exact absurd (List.mem_of_getElem? (pos_get hp)) hni
    | none => simp only; rw [if_neg (hout i ha)]
  have hcase : ∀ i, (∃ k o, objs[k]? = some o ∧ backId ids fr k = i) ∨ (∀ k, k < objs.length → backId ids fr k ≠ i) := fun i => by
    by_cases hc : ∃ k, k < objs.length ∧ backId ids fr k = i
    · obtain ⟨k, hk, he⟩ := hc
      exact .inl ⟨k, _, List.getElem?_eq_getElem hk, he⟩
    · exact .inr (fun k hk he => hc ⟨k, hk, he⟩)
  have hob : ∀ {k o}, objs[k]? = some o → hOf objs k = o := fun hk => by rw [hOf_get, hk]; rfl
  have hro_rw : ∀ o : Ob, o.setRo.rw = false := fun o => by cases o <;> rfl
  have hro_alive : ∀ o : Ob, o.setRo.alive = o.alive := fun o => by cases o <;> rfl
  -- whose blocks may be written
  have hmine : ∀ i, Mine H (backL β β' ids fr) i → (∃ k, k < objs.length ∧ backId ids fr k = i ∧ Mine (hOf objs) β' k ∧ backL β β' ids fr i = β' k) ∨ (Mine h β i ∧ i ∉ ids ∧ backL β β' ids fr i = β i ∧ (lentOk T v objs = true ∨ i ∉ bor)) := by
    intro i ⟨h1, h2⟩
    rcases hcase i with ⟨k, o, hk, rfl⟩ | hc
    · left
      have hkl := (List.getElem?_eq_some_iff.1 hk).1
      rw [hA k o hk, ren_rw] at h1
      rw [hLA k hkl] at h2
      exact ⟨k, hkl, rfl, ⟨by rw [hob hk]; exact h1, h2⟩, hLA k hkl⟩
    · right
      rcases hB i hc with ⟨h3, h4⟩ | ⟨_, _, h3⟩
      · rw [h3] at h1
        obtain ⟨h5, h6⟩ := hLB i hc (Ob.rw_alive h1)
        rw [h5] at h2
        exact ⟨⟨h1, h2⟩, h6, h5, h4⟩
      · rw [h3, hro_rw] at h1
        cases h1
  -- the callee's blocks are old ones of its own, or new
  have hcal : ∀ k, Mine (hOf objs) β' k → (∃ i, i ∈ ids ∧ Mine h β i ∧ (β i).b = (β' k).b) ∨ w.heap.size ≤ (β' k).b := by
    intro k hk
    rcases gd.wk.fresh k hk with ⟨k', hk', e⟩ | e
    · obtain ⟨i, hi, mi, ei⟩ := reMine hk'
      exact .inl ⟨i, List.mem_of_getElem? hi, mi, ei.symm.trans e⟩
    · exact .inr e
  have hframe : ∀ b, b < w.heap.size → (∀ i, Mine h β i → i ∈ ids → (β i).b ≠ b) → w'.heap[b]? = w.heap[b]? := fun b hb hn =>
    gd.wk.frame b hb (fun k hk he => by
      obtain ⟨i, hi, mi, ei⟩ := reMine hk
      exact hn i mi (List.mem_of_getElem? hi) (ei.symm.trans he))
  have hhd : ∀ i, Hd (h i) (β i) (H i) (backL β β' ids fr i) := by
    intro i
    cases hdead : (h i).alive with
    | false =>
      cases hq : h i with
      | dead => trivial
      | _ => rw [hq] at hdead; cases hdead
    | true =>
      rcases hcase i with ⟨k, o, hk, rfl⟩ | hc
      · have hkl := (List.getElem?_eq_some_iff.1 hk).1
        rcases Nat.lt_or_ge k ids.length with h1 | h1
        · have h2 := List.getElem?_eq_getElem h1
          have h3 := gd.wk.hd k h1
          have hbid : backId ids fr k = ids[k] := backId_lo h2
          rw [reH_some h2, reL_some h2, hob hk] at h3
          rw [hA k o hk, hLA k hkl, hbid]
          have hg : backGen view ids k = (h ids[k]).gen := by rw [backGen, h2]; exact congrArg Ob.gen (hids _ (List.getElem_mem h1)).1
          rw [hg]
          cases hq : h ids[k] with
          | dead => trivial
          | box ro cs =>
            rw [hq] at h3
            obtain ⟨⟨ro', cs', rfl⟩, e⟩ := h3
            exact ⟨⟨_, _, rfl⟩, e⟩
          | row ro g t vs =>
            rw [hq] at h3
            obtain ⟨ro', g', t', vs', rfl, hg', e⟩ := h3
            refine ⟨ro', _, t', vs', rfl, ?_, fun he => e ?_⟩
            · show g ≤ g' + g
              omega
            · have he : g = g' + g := he
              show 0 = g'
              omega
          | dict ro t ks vs =>
            rw [hq] at h3
            obtain ⟨⟨ro', t', ks', vs', rfl⟩, e⟩ := h3
            exact ⟨⟨_, _, _, _, rfl⟩, e⟩
          | sit ro s k =>
            rw [hq] at h3
            obtain ⟨⟨ro', s', k', rfl⟩, e⟩ := h3
            exact ⟨⟨_, _, _, rfl⟩, e⟩
        · rw [backId_hi h1] at hdead
          exact absurd ⟨by omega, by omega⟩ (hout _ hdead)
      · rw [(hLB i hc hdead).1]
        rcases hB i hc with ⟨h3, _⟩ | ⟨_, _, h3⟩
        · rw [h3]; exact Hd.refl _ _
        · rw [h3]
          cases hq : h i with
          | dead => trivial
          | box ro cs => exact ⟨⟨_, _, rfl⟩, rfl⟩
          | row ro g t vs => exact ⟨_, _, _, _, rfl, Nat.le_refl _, fun _ => ⟨rfl, rfl, rfl⟩⟩
          | dict ro t ks vs => exact ⟨⟨_, _, _, _, rfl⟩, rfl⟩
          | sit ro s k => exact ⟨⟨_, _, _, rfl⟩, rfl⟩
  have st : Stp h β w H (backL β β' ids fr) w' := by
    refine ⟨gd.wk.os, gd.wk.tape, gd.wk.output, gd.wk.size, fun b hb hn => hframe b hb (fun i mi _ => hn i mi), fun i hi => ?_, hhd⟩
    rcases hmine i hi with ⟨k, _, _, mk, e⟩ | ⟨mi, _, e, _⟩
    · rw [e]
      rcases hcal k mk with ⟨j, _, mj, ej⟩ | e'
      · exact .inl ⟨j, mj, ej⟩
      · exact .inr e'
    · exact .inl ⟨i, mi, by rw [e]⟩
  have hk := st.kept cx
  have hown : ∀ b, Own Z H (backL β β' ids fr) b → Own (lent Z h β ids bor) (hOf objs) β' b ∨ (lentOk T v objs = true ∧ ∃ j, j ∈ bor ∧ Mine h β j ∧ (β j).b = b) := by
    rintro b (hz | ⟨i, hi, e⟩)
    · exact .inl (.inl (.inl hz))
    · rcases hmine i hi with ⟨k, _, _, mk, e'⟩ | ⟨mi, hni, e', hl⟩
      · exact .inl (.inr ⟨k, mk, by rw [← e']; exact e⟩)
      · rw [e'] at e
        by_cases hib : i ∈ bor
        · exact .inr ⟨hl.resolve_right (fun hn => hn hib), i, hib, mi, e⟩
        · exact .inl (.inl (.inr ⟨i, mi, hni, hib, e⟩))
  have hback : ∀ (O : Nat → Prop) (r : V) (y : Value), RefRep T (hOf objs) β' r y → Rep T w' O (renRef (fun i => some (backId ids fr i)) (fun i g => some (g + backGen view ids i)) r) (RefRep T H (backL β β' ids fr)) y := by
    intro O r y hr
    have aux : ∀ k o, hOf objs k = o → o.alive = true → objs[k]? = some o ∧ k < objs.length := fun k o he ha => by
      rw [hOf_get] at he
      cases hq : objs[k]? with
      | none => rw [hq] at he; subst he; cases ha
      | some o' => rw [hq] at he; simp at he; subst he; exact ⟨rfl, (List.getElem?_eq_some_iff.1 hq).1⟩
    cases r with
    | box i j =>
      obtain ⟨⟨ro, cs, e⟩, hy⟩ := hr
      obtain ⟨h1, h2⟩ := aux i _ e rfl
      exact ⟨⟨ro, _, hA i _ h1⟩, by rw [hLA i h2]; exact hy⟩
    | full t i g n =>
      obtain ⟨ro, g', t', vs, e, hg, hsl, hx⟩ := hr
      obtain ⟨h1, h2⟩ := aux i _ e rfl
      refine ⟨ro, g' + backGen view ids i, t', vs, hA i _ h1, by omega, hsl, fun he => ?_⟩
      rw [hLA i h2]
      exact hx (by omega)
    | sub t i g o n =>
      obtain ⟨ro, g', t', vs, e, hg, hsl, hx⟩ := hr
      obtain ⟨h1, h2⟩ := aux i _ e rfl
      refine ⟨ro, g' + backGen view ids i, t', vs, hA i _ h1, by omega, hsl, fun he => ?_⟩
      rw [hLA i h2]
      exact hx (by omega)
    | elt i g a j =>
      obtain ⟨ro, g', t', vs, e, hg, hsl, hx⟩ := hr
      obtain ⟨h1, h2⟩ := aux i _ e rfl
      refine ⟨ro, g' + backGen view ids i, t', vs, hA i _ h1, by omega, hsl, fun he => ?_⟩
      rw [hLA i h2]
      exact hx (by omega)
    | mref i =>
      obtain ⟨⟨ro, t, ks, vs, e⟩, hy⟩ := hr
      obtain ⟨h1, h2⟩ := aux i _ e rfl
      exact ⟨⟨ro, _, _, _, hA i _ h1⟩, by rw [hLA i h2]; exact hy⟩
    | itr i =>
      obtain ⟨⟨ro, s, k, e⟩, hy⟩ := hr
      obtain ⟨h1, h2⟩ := aux i _ e rfl
      exact ⟨⟨ro, _, _, hA i _ h1⟩, by rw [hLA i h2]; exact hy⟩
    | bsl t i n =>
      obtain ⟨⟨ro, cs, e⟩, hy⟩ := hr
      obtain ⟨h1, h2⟩ := aux i _ e rfl
      exact ⟨⟨ro, _, hA i _ h1⟩, by rw [hLA i h2]; exact hy⟩
    | _ => exact hr.elim
  have hlt : ∀ i, Mine h β i → (β i).b < w.heap.size := fun i mi => (cx.ob i).lt (Ob.rw_alive mi.1) mi.2
  refine ⟨⟨fun i => ?_, fun i ha hr hn => ?_, fun a b hab ha hb => ?_, fun b hz => Nat.lt_of_lt_of_le (cx.zlt b hz) gd.wk.size, fun i hi hz => ?_, fun g => Rep.kept hk _ _ _ _ (fun _ _ h => h) (cx.glob g)⟩, st, ?_, fun i hi => ?_⟩
  · rcases hcase i with ⟨k, o, hko, rfl⟩ | hc
    · have hkl := (List.getElem?_eq_some_iff.1 hko).1
      rw [hA k o hko, hLA k hkl]
      have h1 := gd.cx.ob k
      rw [hob hko] at h1
      refine ObRep.ren _ (fun r y hr => hback _ r y hr) ?_
      cases hl : lentOk T v objs with
      | true =>
        unfold lentOk at hl
        rw [Bool.and_eq_true, List.all_eq_true] at hl
        have h2 := hl.2 o (List.mem_of_getElem? hko)
        rw [Bool.and_eq_true] at h2
        exact h1.flat h2.1
      | false =>
        refine h1.kept (Kept.less (fun b hb => ?_)) (fun _ _ h => h) (fun _ => rfl)
        rcases hown b hb with h2 | ⟨h2, _⟩
        · exact h2
        · rw [hl] at h2; cases h2
    · cases hal2 : (h i).alive with
      | false =>
        have hq : h i = .dead := by
          cases hq : h i with
          | dead => rfl
          | _ => rw [hq] at hal2; cases hal2
        have : H i = .dead := by
          rcases hB i hc with ⟨h3, _⟩ | ⟨_, _, h3⟩ <;> rw [h3, hq]
          rfl
        rw [this]
        trivial
      | true =>
        obtain ⟨h5, h6⟩ := hLB i hc hal2
        rw [h5]
        have h7 : ObRep T w' (Own Z H (backL β β' ids fr)) (RefRep T H (backL β β' ids fr)) (β i) (h i) := by
          refine (cx.ob i).kept hk (fun _ _ h => st.refs h) (fun hn => ?_)
          have hl := (cx.ob i).lt hal2 hn
          refine hframe _ hl (fun j mj hj e => ?_)
          by_cases hrw : (h i).rw = true
          · exact cx.inj j i (fun e' => h6 (by rw [← e']; exact hj)) mj ⟨hrw, hn⟩ e
          · exact cx.ro i hal2 (by simpa using hrw) hn (.inr ⟨j, mj, e⟩)
        rcases hB i hc with ⟨h3, _⟩ | ⟨_, _, h3⟩
        · rw [h3]; exact h7
        · rw [h3]; exact h7.setRo
  · rcases hcase i with ⟨k, o, hko, rfl⟩ | hc
    · have hkl := (List.getElem?_eq_some_iff.1 hko).1
      rw [hA k o hko] at ha hr
      rw [ren_alive] at ha
      rw [ren_rw] at hr
      rw [hLA k hkl] at hn ⊢
      intro hO
      rcases hown _ hO with h2 | ⟨h2, _⟩
      · exact gd.cx.ro k (by rw [hob hko]; exact ha) (by rw [hob hko]; exact hr) hn h2
      · unfold lentOk at h2
        rw [Bool.and_eq_true, List.all_eq_true] at h2
        have h3 := h2.2 o (List.mem_of_getElem? hko)
        rw [hr, ha] at h3
        simp at h3
    · rcases hB i hc with ⟨h3, _⟩ | ⟨hib, _, h3⟩
      · rw [h3] at ha hr
        obtain ⟨h5, h6⟩ := hLB i hc ha
        rw [h5] at hn ⊢
        exact hk.own _ ((cx.ob i).lt ha hn) (cx.ro i ha hr hn)
      · rw [h3, hro_alive] at ha
        obtain ⟨h5, h6⟩ := hLB i hc ha
        rw [h5] at hn ⊢
        have hl := (cx.ob i).lt ha hn
        by_cases hrw : (h i).rw = true
        · have mi : Mine h β i := ⟨hrw, hn⟩
          rintro (hz | ⟨j, mj, e⟩)
          · exact cx.zown i mi hz
          · have hji : j ≠ i := fun e' => by
              subst e'
              have := mj.1
              rw [h3, hro_rw] at this
              cases this
            rcases hmine j mj with ⟨k, _, _, mk, e'⟩ | ⟨mj', _, e', _⟩
            · rw [e'] at e
              rcases hcal k mk with ⟨a, ha', ma, ea⟩ | e2
              · exact cx.inj a i (fun e3 => h6 (by rw [← e3]; exact ha')) ma mi (ea.trans e)
              · omega
            · rw [e'] at e
              exact cx.inj j i hji mj' mi e
        · exact hk.own _ hl (cx.ro i ha (by simpa using hrw) hn)
  · rcases hmine a ha with ⟨k, hkl, hka, mk, e⟩ | ⟨ma, hna, e, _⟩ <;> rcases hmine b hb with ⟨k', hkl', hkb, mk', e'⟩ | ⟨mb, hnb, e', _⟩ <;> rw [e, e']
    · exact gd.cx.inj k k' (fun h1 => hab (by rw [← hka, ← hkb, h1])) mk mk'
    · intro h1
      rcases hcal k mk with ⟨j, hj, mj, ej⟩ | e2
      · exact cx.inj j b (fun h2 => hnb (by rw [← h2]; exact hj)) mj mb (ej.trans h1)
      · have := hlt b mb; omega
    · intro h1
      rcases hcal k' mk' with ⟨j, hj, mj, ej⟩ | e2
      · exact cx.inj j a (fun h2 => hna (by rw [← h2]; exact hj)) mj ma (ej.trans h1.symm)
      · have := hlt a ma; omega
    · exact cx.inj a b hab ma mb
  · rcases hmine i hi with ⟨k, _, _, mk, e⟩ | ⟨mi, _, e, _⟩
    · rw [e] at hz
      rcases hcal k mk with ⟨j, _, mj, ej⟩ | e2
      · rw [← ej] at hz; exact cx.zown j mj hz
      · have := cx.zlt _ hz; omega
    · rw [e] at hz; exact cx.zown i mi hz
  · unfold backV
    rw [V.mapRefF_eq]
    refine Rep.mapRef v _ _ x (fun r y hr => hback _ r y hr) ?_
    cases hl : lentOk T v objs with
    | true =>
      unfold lentOk at hl
      rw [Bool.and_eq_true] at hl
      exact Rep.flat v _ _ hl.1 gd.rep
    | false =>
      refine Rep.kept (Kept.less (fun b hb => ?_)) v _ _ x (fun _ _ h => h) gd.rep
      rcases hown b hb with h2 | ⟨h2, _⟩
      · exact h2
      · rw [hl] at h2; cases h2
  · rcases hcase i with ⟨k, o, hko, rfl⟩ | hc
    · have hkl := (List.getElem?_eq_some_iff.1 hko).1
      rcases Nat.lt_or_ge k ids.length with h1 | h1
      · rw [backId_lo (List.getElem?_eq_getElem h1)]
        exact .inl (hids _ (List.getElem_mem h1)).2
      · rw [backId_hi h1]
        exact .inr ⟨by omega, by omega⟩
    · rcases hB i hc with ⟨h3, _⟩ | ⟨hib, _, _⟩
      · exact absurd h3 hi
      · exact .inl (hbor i hib).2.1
end
end Go.AH

namespace Go.AH
open Go Go.RowKit

section
variable {T : TypeId → Ty} {G : Nat → V} {E : Env} {P : Program} {Z : Nat → Prop} {h view : Nat → Ob} {β : Nat → Loc} {w : World} {s : Nat → V} {a : Act} {fr : Nat} {o : Oper} {r : Rs}

/-- How a call ends. -/
def Ends (T : TypeId → Ty) (G : Nat → V) (Z : Nat → Prop) (objs : List Ob) (β : Nat → Loc) (w : World) (out : Out) : Ending → World → Prop
  | .returned x, w' => ∃ v objs' β', out = .ret v objs' ∧ Good T G Z objs.length (hOf objs) β w v objs' β' w' x
  | .panicked chain, w' => ∃ v objs' β' x, out = .panic v objs' ∧ v.noRef = true ∧ chain = [{ v := x, recovered := false }] ∧ Good T G Z objs.length (hOf objs) β w v objs' β' w' x
  | .outgrown, _ => False
def Runs (P : Program) (f : FuncId) (cargs : Array Value) (w : World) (R : Ending → World → Prop) : Prop :=
  ((callFunc f cargs).run P w = .ok (.enter f cargs) w ∧ Calls P f cargs w R) ∨ (∃ x w', (callFunc f cargs).run P w = .ok (.value x) w' ∧ R (.returned x) w')
/-- The function does what its model says. -/
def Holds (T : TypeId → Ty) (G : Nat → V) (P : Program) (f : FuncId) (C : List V → List Ob → Tr Out) : Prop :=
  ∀ args objs out, (C args objs).eval = some out → (∀ o ∈ objs, o.gen = 0) → ∀ (Z : Nat → Prop) β w (cargs : Array Value), Cx T G Z (hOf objs) β w → RepL T w (Own Z (hOf objs) β) args (RefRep T (hOf objs) β) cargs.toList →
    Runs P f cargs w (Ends T G Z objs β w out)

theorem reV_view {ids : List Nat} (hv : ∀ i ∈ ids, view i = h i) (δ : Nat → Nat → Nat) : renRef (pos ids) (genAt view δ) = renRef (pos ids) (genAt h δ) := by
  have hg : ∀ i k g, pos ids i = some k → genAt view δ i g = genAt h δ i g := fun i k g hp => by
    unfold genAt
    rw [hv i (List.mem_of_getElem? (pos_get hp))]
  funext v
  cases v <;> simp only [renRef] <;> first | rfl | skip
  all_goals
    rename_i i _ _ _ 
    first
      | (cases hp : pos ids i with
        | none => rfl
        | some k => simp only [hg i k _ hp])
      | skip
  all_goals
    rename_i i _ _
    cases hp : pos ids i with
    | none => rfl
    | some k => simp only [hg i k _ hp]
theorem reO_view {ids : List Nat} (hv : ∀ i ∈ ids, view i = h i) (δ : Nat → Nat → Nat) : reO view δ ids = reO h δ ids := by
  unfold reO
  rw [reV_view hv]
  exact List.map_congr_left (fun i hi => by rw [hv i hi])
mutual
theorem mapRef_id {φ : V → V} : ∀ (v : V), v.refs = [] → v.mapRef φ = v
  | .top, _ => by simp [V.mapRef]
  | .bool _, _ => by simp [V.mapRef]
  | .int _ _, _ => by simp [V.mapRef]
  | .str _, _ => by simp [V.mapRef]
  | .nilp, _ => by simp [V.mapRef]
  | .nilm, _ => by simp [V.mapRef]
  | .nils, _ => by simp [V.mapRef]
  | .fix .., _ => by simp [V.mapRef]
  | .nilf, _ => by simp [V.mapRef]
  | .nili, _ => by simp [V.mapRef]
  | .agg cs, h => by rw [V.mapRef, mapRefs_id cs (by simpa [V.refs] using h)]
  | .tup cs, h => by rw [V.mapRef, mapRefs_id cs (by simpa [V.refs] using h)]
  | .seq _ _, _ => by simp [V.mapRef]
  | .pref _, _ => by simp [V.mapRef]
  | .dict _ _ _, _ => by simp [V.mapRef]
  | .clo f a b, h => by
    rw [V.refs, List.append_eq_nil_iff] at h
    rw [V.mapRef, mapRefs_id a h.1, mapRefs_id b h.2]
  | .iface t v, h => by rw [V.mapRef, mapRef_id v (by simpa [V.refs] using h)]
  | .box .., h => by simp [V.refs] at h
  | .full .., h => by simp [V.refs] at h
  | .sub .., h => by simp [V.refs] at h
  | .elt .., h => by simp [V.refs] at h
  | .mref .., h => by simp [V.refs] at h
  | .bsl .., h => by simp [V.refs] at h
  | .itr .., h => by simp [V.refs] at h
theorem mapRefs_id {φ : V → V} : ∀ (vs : List V), V.refsL vs = [] → V.mapRefs φ vs = vs
  | [], _ => by simp [V.mapRefs]
  | v :: vs, h => by
    rw [V.refsL, List.append_eq_nil_iff] at h
    rw [V.mapRefs, mapRef_id v h.1, mapRefs_id vs h.2]
end
theorem mapRef_noRef {φ : V → V} {v : V} (h : v.noRef = true) : v.mapRef φ = v := mapRef_id v (by simpa [V.noRef] using h)
theorem refsL_split : ∀ (m : List Bool) (args : List V) (v : V) (i : Nat), v ∈ (split m args).2 → i ∈ v.refs → i ∈ V.refsL (split m args).2 := fun m args v i hv hi => refsL_mem hv hi
theorem passArgs_sound {O O' : Nat → Prop} {R R' : V → Value → Prop} {φ : V → V} (S : List Nat) (h1 : ∀ v x, Rep T w O v R x → Rep T w O' (φ v) R' x) (h2 : ∀ v x, (∀ i ∈ v.refs, i ∈ S) → Rep T w O v R x → Rep T w O' (toTree T view treeFuel v) R' x) :
    ∀ (args : List V) (m : List Bool) (l : List Value), (∀ i ∈ V.refsL (split m args).2, i ∈ S) → RepL T w O args R l → RepL T w O' (passArgs T view φ m args) R' l
  | [], m, l, _, h => h
  | v :: r, m, _, hS, ⟨x, l, rfl, g1, g2⟩ => by
    rw [passArgs]
    have hsp : split m (v :: r) = (match m.headD false with | true => (v :: (split m.tail r).1, (split m.tail r).2) | false => ((split m.tail r).1, v :: (split m.tail r).2)) := rfl
    rw [hsp] at hS
    cases hm : m.headD false with
    | true =>
      rw [hm] at hS
      exact ⟨x, l, rfl, h1 v x g1, passArgs_sound S h1 h2 r m.tail l hS g2⟩
    | false =>
      rw [hm] at hS
      simp only [V.refsL] at hS
      exact ⟨x, l, rfl, h2 v x (fun i hi => hS i (List.mem_append.2 (.inl hi))) g1, passArgs_sound S h1 h2 r m.tail l (fun i hi => hS i (List.mem_append.2 (.inr hi))) g2⟩

/-- What an operation comes to, for the walk. -/
def Comes2 (E : Env) (Z : Nat → Prop) (h : Nat → Ob) (β : Nat → Loc) (w : World) (a : Act) (fr : Nat) (o : Oper) (r : Rs) (next : Act → World → Prop) (Q : Exit → Act → World → Prop) : Prop :=
  (∀ v u x w' β', r = .ok v u → Done E Z h β w fr v u x β' w' → next (a.put o.dst x) w') ∧
  (∀ v u x w' β', r = .pan v u → v.noRef = true → Done E Z h β w fr v u x β' w' → Q (.panic [{ v := x, recovered := false }]) a w')

/-- What a call has done, for the walk. -/
def CallDone (E : Env) (Z : Nat → Prop) (h : Nat → Ob) (β : Nat → Loc) (w : World) (fr : Nat) (r : Rs) (e : Ending) (w' : World) : Prop := match e with
      | .returned x => ∃ v u β', r = .ok v u ∧ Done E Z h β w fr v u x β' w'
      | .panicked chain => ∃ v u x β', r = .pan v u ∧ v.noRef = true ∧ chain = [{ v := x, recovered := false }] ∧ Done E Z h β w fr v u x β' w'
      | .outgrown => False
theorem call_core (hT : TyOk P E.ty) (cx : Cx E.ty E.glob Z h β w) (hv : Sees view h) (hfr : ∀ i, fr ≤ i → i < fr + 64 → h i = .dead) {g : FuncId} {args : List V} {cargs : Array Value}
    (hargs : RepL E.ty w (Own Z h β) args (RefRep E.ty h β) cargs.toList) (he : (evCall E view fr g args).eval = some r) :
    ∃ (Z' : Nat → Prop) (args' : List V) (objs : List Ob) (out : Out) (β0 : Nat → Loc), (E.C g args' objs).eval = some out ∧ (∀ o ∈ objs, o.gen = 0) ∧ Cx E.ty E.glob Z' (hOf objs) β0 w ∧
      RepL E.ty w (Own Z' (hOf objs) β0) args' (RefRep E.ty (hOf objs) β0) cargs.toList ∧ ∀ e w', Ends E.ty E.glob Z' objs β0 w out e w' → CallDone E Z h β w fr r e w' := by
  unfold evCall at he
  rw [V.refsLF_eq, V.refsLF_eq] at he
  obtain ⟨ids, hids⟩ : ∃ ids, ids = reach view (V.refsL (split (E.mode g) args).1) := ⟨_, rfl⟩
  obtain ⟨bor, hbor⟩ : ∃ bor, bor = reach view (V.refsL (split (E.mode g) args).2) := ⟨_, rfl⟩
  rw [← hids, ← hbor] at he
  simp only at he
  split at he
  · simp [Tr.eval] at he
  · rename_i hap
    obtain ⟨out, h1, h2⟩ := eval_bind he
    have hnd : ids.Nodup := hids ▸ reach_nodup _ _
    have hap' := hap
    unfold apart at hap'
    rw [Bool.and_eq_true, List.all_eq_true, List.all_eq_true] at hap'
    obtain ⟨hal, hbo⟩ := hap'
    have hvi : ∀ i ∈ ids, view i = h i ∧ (h i).alive = true := fun i hi => by
      have h1 := hal i hi
      rcases hv i with h2 | h2
      · rw [h2] at h1; cases h1
      · exact ⟨h2, by rw [← h2]; exact h1⟩
    rw [reO_view (fun i hi => (hvi i hi).1)] at h1
    have hZ : ∀ b, lent Z h β ids bor b → Own Z h β b := by
      rintro b (hz | ⟨i, mi, _, _, e⟩)
      · exact .inl hz
      · exact .inr ⟨i, mi, e⟩
    have hlt : ∀ i, Mine h β i → (β i).b < w.heap.size := fun i mi => (cx.ob i).lt (Ob.rw_alive mi.1) mi.2
    have cxE : Cx E.ty E.glob (lent Z h β ids bor) (reH h gen0 ids) (reL β ids) w := cx.re hnd hZ
      (by
        rintro b (hz | ⟨i, mi, _, _, e⟩)
        · exact cx.zlt b hz
        · rw [← e]; exact hlt i mi)
      (by
        rintro i hi mi (hz | ⟨j, mj, hj, _, e⟩)
        · exact cx.zown i mi hz
        · exact cx.inj j i (fun e' => hj (by rw [e']; exact hi)) mj mi e)
    have hO : ∀ b, Own (lent Z h β ids bor) (reH h gen0 ids) (reL β ids) b → Own Z h β b := reOwn hZ
    have hbav : ∀ i ∈ bor, (h i).alive = true → (β i).nil = false → ¬ Own (lent Z h β ids bor) (reH h gen0 ids) (reL β ids) (β i).b := by
      intro i hi ha hn ho
      have hni : i ∉ ids := by
        have := hbo i hi
        simp only [Bool.and_eq_true, Bool.not_eq_true'] at this
        simpa using this.1.2
      by_cases hrw : (h i).rw = true
      · have mi : Mine h β i := ⟨hrw, hn⟩
        rcases ho with (hz | ⟨j, mj, _, hj, e⟩) | ⟨k, mk, e⟩
        · exact cx.zown i mi hz
        · exact cx.inj j i (fun e' => hj (by rw [e']; exact hi)) mj mi e
        · obtain ⟨j, hj, mj, ej⟩ := reMine mk
          exact cx.inj j i (fun e' => hni (by rw [← e']; exact List.mem_of_getElem? hj)) mj mi (ej.symm.trans e)
      · exact cx.ro i ha (by simpa using hrw) hn (hO _ ho)
    have hargs2 : RepL E.ty w (Own (lent Z h β ids bor) (reH h gen0 ids) (reL β ids)) (passArgs E.ty view (reV view gen0 ids) (E.mode g) args) (RefRep E.ty (reH h gen0 ids) (reL β ids)) cargs.toList := by
      refine passArgs_sound bor (fun v x hr => ?_) (fun v x hS hr => ?_) args (E.mode g) _ (fun i hi => hbor ▸ reach_mem view _ hi) hargs
      · have : reV view gen0 ids v = reV h gen0 ids v := by unfold reV; rw [reV_view (fun i hi => (hvi i hi).1)]
        rw [this]
        exact hr.re hO
      · refine toTree_sound hT cx hv hO (S := bor) (fun i hi j hj => ?_) hbav _ v x _ hS hr
        have := hbo i hi
        simp only [Bool.and_eq_true, List.all_eq_true] at this
        simpa using this.2 j hj
    have hgen : ∀ o ∈ reO h gen0 ids, o.gen = 0 := by
      intro o ho
      obtain ⟨i, _, rfl⟩ := List.mem_map.1 ho
      cases h i <;> rfl
    have hlen : (reO h gen0 ids).length = ids.length := by simp [reO]
    refine ⟨lent Z h β ids bor, _, _, out, reL β ids, h1, hgen, cxE, hargs2, ?_⟩
    intro e w' hend
    cases e with
    | returned x =>
      obtain ⟨v, objs', β', rfl, gd⟩ := hend
      rw [hlen] at gd
      simp only [backRs] at h2
      split at h2
      · rename_i hl
        rw [Bool.and_eq_true] at hl
        simp only [Tr.eval, Option.some.injEq] at h2
        obtain ⟨c1, c2, c3, c4⟩ := call_back cx hv hnd hap hfr (Nat.le_of_ble_eq_true hl.1) (Nat.le_of_ble_eq_true hl.2) gd
        exact ⟨_, _, _, h2.symm, c1, c2, c3, c4⟩
      · simp [Tr.eval] at h2
    | panicked chain =>
      obtain ⟨v, objs', β', x, rfl, hnr, rfl, gd⟩ := hend
      rw [hlen] at gd
      simp only [backRs] at h2
      split at h2
      · rename_i hl
        simp only [Bool.and_eq_true] at hl
        simp only [Tr.eval, Option.some.injEq] at h2
        obtain ⟨c1, c2, c3, c4⟩ := call_back cx hv hnd hap hfr (Nat.le_of_ble_eq_true hl.1.1) (Nat.le_of_ble_eq_true hl.1.2) gd
        have h5 : Rep E.ty w' (Own Z (updL h (backU E.ty view ids bor fr v objs')) (backL β β' ids fr)) v (RefRep E.ty (updL h (backU E.ty view ids bor fr v objs')) (backL β β' ids fr)) x := by
          have h8 : backV view ids fr v = v := (V.mapRefF_eq _ v).trans (mapRef_noRef hnr)
          rw [h8] at c3
          exact c3
        exact ⟨_, _, _, _, h2.symm, hnr, rfl, c1, c2, h5, c4⟩
      · simp [Tr.eval] at h2
    | outgrown => exact hend.elim
theorem call_sound (hT : TyOk P E.ty) (cx : Cx E.ty E.glob Z h β w) (hv : Sees view h) (hfr : ∀ i, fr ≤ i → i < fr + 64 → h i = .dead) {g : FuncId} (hC : Holds E.ty E.glob P g (E.C g)) {args : List V} {cargs : Array Value}
    (hargs : RepL E.ty w (Own Z h β) args (RefRep E.ty h β) cargs.toList) (he : (evCall E view fr g args).eval = some r) :
    Runs P g cargs w (CallDone E Z h β w fr r) := by
  obtain ⟨Z', args', objs, out, β0, h1, h2, h3, h4, fin⟩ := call_core hT cx hv hfr hargs he
  rcases hC _ _ out h1 h2 Z' β0 w cargs h3 h4 with ⟨k1, k2⟩ | ⟨x, w', k1, k2⟩
  · exact .inl ⟨k1, k2.mono fin⟩
  · exact .inr ⟨x, w', k1, fin _ _ k2⟩
end
end Go.AH

namespace Go.AH
open Go Go.RowKit

section
variable {E : Env} {P : Program} {Z : Nat → Prop} {h view : Nat → Ob} {β : Nat → Loc} {w : World} {s : Nat → V} {a : Act} {fr : Nat} {o : Oper} {r : Rs} {next : Act → World → Prop} {Q : Exit → Act → World → Prop}

theorem Does.wp (d : Does E P Z h β w a fr o r) (hc : Comes2 E Z h β w a fr o r next Q) : o.wp P a w next Q := by
  obtain ⟨v, u, x, w', β', rfl, hr, hd⟩ := d
  have hn := hc.1 v u x w' β' rfl hd
  unfold Oper.wp
  rcases hr with hr | ⟨hr, rfl⟩
  · rw [hr]; exact hn
  · rw [hr]; exact hn
theorem normL_sound {T : TypeId → Ty} {O : Nat → Prop} {R : V → Value → Prop} : ∀ (ts : List TypeId) {vs : List V} {l : List Value}, RepL T w O vs R l → RepL T w O (normL T ts vs) R l
  | [], vs, l, h => by cases vs <;> exact h
  | t :: ts, [], l, h => h
  | t :: ts, v :: vs, _, h => by
    obtain ⟨x, r, rfl, h1, h2⟩ := h
    refine ⟨x, r, rfl, ?_, normL_sound ts h2⟩
    cases hc : (T t).ok && isFormT (T t) v with
    | true =>
      rw [Bool.and_eq_true] at hc
      exact h1.etaT hc.2
    | false => exact h1
theorem op_call (c : Ctx E P Z h view β w s a) (hfr : ∀ i, fr ≤ i → i < fr + 64 → h i = .dead) (hC : ∀ g, Holds E.ty E.glob P g (E.C g)) {cl : Call} {f : Operand} (ho : o.op = .call cl) (hf : cl.callee = .value f)
    (he : (evOp E view s fr o).eval = some r) (hc : Comes2 E Z h β w a fr o r next Q) : o.wp P a w next Q := by
  obtain ⟨callee, args, argTypes⟩ := cl
  simp only at hf
  subst hf
  simp only [evOp, ho] at he
  have hx := c.val f
  split at he
  · rename_i g p q hv
    rw [hv] at hx
    obtain ⟨p', q', hfe, hp, hq⟩ := hx
    have hargs : RepL E.ty w (Own Z h β) (p ++ normL E.ty argTypes.toList (args.toList.map (ev E s)) ++ q) (RefRep E.ty h β) (p' ++ args.map a.eval ++ q').toList := by
      have := (hp.append (normL_sound argTypes.toList (c.vals args.toList))).append hq
      simpa using this
    have key := call_sound c.ty c.cx c.sees hfr (hC g) hargs he
    have hrun : (execOp a.eval o).run P w = (callFunc g (p' ++ args.map a.eval ++ q')).run P w := by
      simp [execOp, ho, resolve, hfe, Deferred.ofValue, invoke]
    unfold Oper.wp
    rw [hrun]
    rcases key with ⟨k1, k2⟩ | ⟨x, w', k1, v, u, β', rfl, hd⟩
    · rw [k1, Oper.upon_enter]
      refine k2.mono (fun e w' hend => ?_)
      cases e with
      | returned x =>
        obtain ⟨v, u, β', rfl, hd⟩ := hend
        exact hc.1 v u x w' β' rfl hd
      | panicked chain =>
        obtain ⟨v, u, x, β', rfl, hnr, rfl, hd⟩ := hend
        exact hc.2 v u x w' β' rfl hnr hd
      | outgrown => exact hend.elim
    · rw [k1, Oper.upon_value]
      exact hc.1 v u x w' β' rfl hd
  · simp [Tr.eval] at he
theorem op_panic (c : Ctx E P Z h view β w s a) {x : Operand} (ho : o.op = .panic x) (he : (evOp E view s fr o).eval = some r) (hc : Comes2 E Z h β w a fr o r next Q) : o.wp P a w next Q := by
  simp only [evOp, ho] at he
  have hx := c.val x
  split at he
  · rename_i t v hv
    split at he
    · rename_i hnr
      simp only [Tr.eval, Option.some.injEq] at he
      rw [hv] at hx
      have hx0 := hx
      obtain ⟨y, hxe, hy⟩ := hx
      unfold Oper.wp
      have hrun : (execOp a.eval o).run P w = .halt (.panic (a.eval x)) w := by
        rw [hxe]
        simp [execOp, ho, hxe, Instr.panic, goPanic]
      rw [hrun]
      exact hc.2 _ _ _ w β he.symm (by simpa [V.noRef, V.refs] using hnr) ⟨c.cx, Stp.refl, hx0, fun i hi => absurd rfl hi⟩
    · simp [Tr.eval] at he
  · simp [Tr.eval] at he
theorem op_assign (c : Ctx E P Z h view β w s a) {x : Operand} (hx : x ≠ .const (.slice none 0 0)) (ho : o.op = .assign x) (he : (evOp E view s fr o).eval = some r) : Gives E P Z h β w a o r := by
  have he' : (Tr.ret (Rs.ok (ev E s x) [])).eval = some r := by
    cases x with
    | const v =>
      cases v with
      | slice ad n cp =>
        cases ad with
        | none =>
          cases n with
          | zero =>
            cases cp with
            | zero => exact absurd rfl hx
            | succ cp => simpa only [evOp, ho] using he
          | succ n => simpa only [evOp, ho] using he
        | some ad => simpa only [evOp, ho] using he
      | _ => simpa only [evOp, ho] using he
    | _ => simpa only [evOp, ho] using he
  simp only [Tr.eval, Option.some.injEq] at he'
  exact ⟨_, _, he'.symm, by simp [execOp, ho], c.val x⟩
theorem op_sound (c : Ctx E P Z h view β w s a) (hfr : ∀ i, fr ≤ i → i < fr + 64 → h i = .dead) (hC : ∀ g, Holds E.ty E.glob P g (E.C g))
    (he : (evOp E view s fr o).eval = some r) (hc : Comes2 E Z h β w a fr o r next Q) : o.wp P a w next Q := by
  have hf0 : h fr = .dead := hfr fr (Nat.le_refl _) (by omega)
  cases ho : o.op with
  | move x => exact ((op_move c ho he).does c).wp hc
  | assign x =>
    by_cases hx : x = .const (.slice none 0 0)
    · subst hx; exact (op_nil c hf0 ho he).wp hc
    · exact ((op_assign c hx ho he).does c).wp hc
  | pick x y z => exact ((op_pick c ho he).does c).wp hc
  | alloc t => exact (op_alloc c hf0 ho he).wp hc
  | box t x => exact (op_box c hf0 ho he).wp hc
  | build t parts => exact ((op_build c ho he).does c).wp hc
  | buildSlice t len parts => exact (op_buildSlice c hf0 ho he).wp hc
  | load t x => exact ((op_load c ho he).does c).wp hc
  | store t x y =>
    cases hi : ev E s x with
    | box i j => exact (op_store_box c hi ho he).wp hc
    | elt i g k j => exact (op_store_elt c hi ho he).wp hc
    | _ => simp [evOp, ho, hi, Tr.eval] at he
  | binOp op t x y ty => exact ((op_bin c ho he).does c).wp hc
  | unOp op t x => exact ((op_un c ho he).does c).wp hc
  | convert src dst x =>
    by_cases hns : ∀ e b, (E.ty dst).d = .slice e → ev E s x ≠ .str b
    · exact ((op_convert c hns ho he).does c).wp hc
    · have h1 : ∃ e b, (E.ty dst).d = .slice e ∧ ev E s x = .str b := Classical.byContradiction fun h => hns fun e b h2 h3 => h ⟨e, b, h2, h3⟩
      obtain ⟨e, b, h2, h3⟩ := h1
      exact (op_convB c h2 h3 ho he).wp hc
  | makeFunc fn x y =>
    cases fn with
    | func f => exact ((op_makeFunc c ho he).does c).wp hc
    | _ => simp [evOp, ho, Tr.eval] at he
  | makeMap t x =>
    cases x with
    | none => exact (op_makeMap c hf0 ho he).wp hc
    | some x => simp [evOp, ho, Tr.eval] at he
  | makeSlice t x y => exact (op_makeSlice c hf0 ho he).wp hc
  | slice t x lo hi mx =>
    cases mx with
    | none => exact ((op_slice c ho he).does c).wp hc
    | some x =>
      cases lo with
      | some l => simp [evOp, ho, Tr.eval] at he
      | none =>
        cases hi with
        | none => simp [evOp, ho, Tr.eval] at he
        | some y => exact ((op_slice3 c ho he).does c).wp hc
  | fieldAddr t x f => exact ((op_fieldAddr c ho he).does c).wp hc
  | field t x f => exact ((op_field c ho he).does c).wp hc
  | indexAddr t x y => exact ((op_indexAddr c ho he).does c).wp hc
  | index t x y => exact ((op_index c ho he).does c).wp hc
  | lookup t x y ok => exact ((op_lookup c ho he).does c).wp hc
  | mapUpdate t m k x => exact (op_mapUpdate c ho he).wp hc
  | extract x n => exact ((op_extract c ho he).does c).wp hc
  | call cl =>
    cases hcl : cl.callee with
    | builtin b => exact (op_builtin c hf0 ho hcl he).wp hc
    | value f => exact op_call c hfr hC ho hcl he hc
    | invoke rc n => simp [evOp, ho, hcl, Tr.eval] at he
  | panic x => exact op_panic c ho he hc
  | range t x => exact (op_range c hf0 ho he).wp hc
  | next x b =>
    cases b with
    | true => exact (op_next c ho he).wp hc
    | false => simp [evOp, ho, Tr.eval] at he
  | nilCheck x => exact ((op_nilCheck c ho he).does c).wp hc
  | makeInterface t x => exact ((op_makeIface c ho he).does c).wp hc
  | typeAssert x xt t ok => exact ((op_typeAssert c ho he).does c).wp hc
  | _ => simp [evOp, ho, Tr.eval] at he
end
end Go.AH

namespace Go.AH
open Go Go.RowKit

theorem upd_eq {α : Type} {f : Nat → α} {i : Nat} {x : α} (h : f i = x) : upd f i x = f := by
  funext j
  by_cases hj : j = i
  · subst hj; rw [upd_same, h]
  · rw [upd_other _ _ hj]
theorem updL_base {α : Type} : ∀ (l : List (Nat × α)) (f g : Nat → α) (k : Nat), (∃ p ∈ l, p.1 = k) → updL f l k = updL g l k
  | [], _, _, _, h => by simp at h
  | (i, x) :: l, f, g, k, h => by
    by_cases hc : ∃ p ∈ l, p.1 = k
    · exact updL_base l _ _ k hc
    · obtain ⟨p, hp, he⟩ := h
      rcases List.mem_cons.1 hp with rfl | hp
      · simp only at he
        subst he
        have hn : ∀ p ∈ l, p.1 ≠ i := fun p hp he => hc ⟨p, hp, he⟩
        rw [updL, updL, updL_not l _ i hn, updL_not l _ i hn, upd_same, upd_same]
      · exact absurd ⟨p, hp, he⟩ hc
theorem updL_comm {α : Type} (a b : List (Nat × α)) (f : Nat → α) (h : ∀ p ∈ a, ∀ q ∈ b, p.1 ≠ q.1) : updL (updL f a) b = updL (updL f b) a := by
  funext k
  by_cases hc : ∃ p ∈ a, p.1 = k
  · obtain ⟨p, hp, he⟩ := hc
    rw [updL_not b _ k (fun q hq he' => h p hp q hq (he.trans he'.symm))]
    exact updL_base a _ _ k ⟨p, hp, he⟩
  · have hn : ∀ p ∈ a, p.1 ≠ k := fun p hp he => hc ⟨p, hp, he⟩
    rw [updL_not a _ k hn]
    by_cases hd : ∃ q ∈ b, q.1 = k
    · exact updL_base b _ _ k hd
    · have hm : ∀ p ∈ b, p.1 ≠ k := fun p hp he => hd ⟨p, hp, he⟩
      rw [updL_not b _ k hm, updL_not b _ k hm, updL_not a _ k hn]
theorem putO_comm {s : Nat → V} {d e : Option Nat} {v u : V} (h : ∀ x, d = some x → e ≠ some x) : putO (putO s d v) e u = putO (putO s e u) d v := by
  cases d with
  | none => rfl
  | some d =>
    cases e with
    | none => rfl
    | some e =>
      have hne : d ≠ e := fun he => h d rfl (by rw [he])
      funext k
      show upd (upd s d v) e u k = upd (upd s e u) d v k
      by_cases h1 : k = d
      · subst h1
        rw [upd_same, upd_other _ _ hne, upd_same]
      · by_cases h2 : k = e
        · subst h2
          rw [upd_same, upd_other _ _ h1, upd_same]
        · rw [upd_other _ _ h2, upd_other _ _ h1, upd_other _ _ h1, upd_other _ _ h2]

section
variable {E : Env} {hd : Hint} {ops : List Oper} {base : Nat}

def guardV (ops : List Oper) (o : Oper) (slot : Nat → V) : Option Bool := match o.guard with
  | none => some true
  | some (i, want) => match (ops[i]?).bind (·.dst) with
    | some d => (match slot d with | .bool b => some (match want with | true => b | false => !b) | .tup [] => some false | _ => none)
    | none => none
noncomputable def coreD (E : Env) (hd : Hint) (ops : List Oper) (base j : Nat) (o : Oper) (slot : Nat → V) (ob : Nat → Ob) : Option (V × Upd) := match (evOp E (viewOf true hd ops base j o ob) (slotOf true ops o slot) (base + 64 * j) o).eval with
  | some (.ok v u) => (match okU E hd j o (base + 64 * j) (viewOf true hd ops base j o ob) u with | true => some (v, u) | false => none)
  | _ => none
noncomputable def resD (E : Env) (hd : Hint) (ops : List Oper) (base j : Nat) (o : Oper) (slot : Nat → V) (ob : Nat → Ob) : Option (V × Upd) := match guardV ops o slot with
  | none => none
  | some false => some (.tup [], [])
  | some true => coreD E hd ops base j o slot ob
theorem bind_none {α β : Type} : ∀ {t : Tr α} {f : α → Tr β}, t.eval = none → (t.bind f).eval = none
  | .ret a, f, h => by simp [Tr.eval] at h
  | .ite true t e, f, h => bind_none (t := t) h
  | .ite false t e, f, h => bind_none (t := e) h
  | .fail, f, h => rfl
theorem stepWith_eval (o : Oper) (s : St) (j : Nat) : (stepWith E true hd ops base j o s).eval = (coreD E hd ops base j o s.slot s.ob).map fun p => Rg.go { s with slot := putO s.slot o.dst p.1, ob := updL s.ob p.2 } := by
  unfold stepWith coreD
  rw [evOpF_eq]
  cases hq : (evOp E (viewOf true hd ops base j o s.ob) (slotOf true ops o s.slot) (base + 64 * j) o).eval with
  | none => rw [bind_none hq]; rfl
  | some x =>
    rw [bind_eval hq]
    cases x with
    | ok v u =>
      simp only [Bool.not_true, Bool.false_or]
      cases okU E hd j o (base + 64 * j) (viewOf true hd ops base j o s.ob) u <;> rfl
    | pan v u => rfl
theorem stepOp_eval {o : Oper} {j : Nat} (ho : ops[j]? = some o) (s : St) : (stepOp E true hd ops base s j).eval = (resD E hd ops base j o s.slot s.ob).map fun p => Rg.go { s with slot := putO s.slot o.dst p.1, ob := updL s.ob p.2 } := by
  unfold stepOp resD guardV
  rw [ho]
  simp only
  cases hg : o.guard with
  | none => simp only; exact stepWith_eval o s j
  | some p =>
    obtain ⟨i, want⟩ := p
    simp only
    cases hd : (ops[i]?).bind (·.dst) with
    | none => rfl
    | some d =>
      simp only
      cases hs : s.slot d with
      | bool b =>
        simp only [Tr.eval]
        cases want <;> cases b <;> simp only [Bool.not_true, Bool.not_false, Tr.eval]
        · rw [upd_eq hs]; exact stepWith_eval o s j
        · rw [upd_eq hs]; rfl
        · rw [upd_eq hs]; rfl
        · rw [upd_eq hs]; exact stepWith_eval o s j
      | tup vs => cases vs <;> rfl
      | _ => rfl
theorem resD_congr {o : Oper} {j : Nat} {slot slot' : Nat → V} {ob ob' : Nat → Ob} (h1 : ∀ t ∈ opReads ops o, slot t = slot' t) (h2 : viewOf true hd ops base j o ob = viewOf true hd ops base j o ob') : resD E hd ops base j o slot ob = resD E hd ops base j o slot' ob' := by
  have hs : slotOf true ops o slot = slotOf true ops o slot' := by
    funext t
    show maskSlot (opReads ops o) slot t = maskSlot (opReads ops o) slot' t
    unfold maskSlot
    cases hc : (opReads ops o).contains t with
    | true => exact h1 t (by simpa using hc)
    | false => rfl
  have hg : guardV ops o slot = guardV ops o slot' := by
    unfold guardV
    cases hg : o.guard with
    | none => rfl
    | some p =>
      obtain ⟨i, want⟩ := p
      simp only
      cases hd : (ops[i]?).bind (·.dst) with
      | none => rfl
      | some d =>
        simp only
        rw [h1 d (by unfold opReads; rw [hg]; simp [hd])]
  unfold resD coreD
  rw [hg, hs, h2]
theorem resD_own {o : Oper} {j : Nat} {slot : Nat → V} {ob : Nat → Ob} {v : V} {u : Upd} (h : resD E hd ops base j o slot ob = some (v, u)) : ∀ p ∈ u, (base + 64 * j ≤ p.1 ∧ p.1 < base + 64 * j + 64) ∨ (loud E.mode o = true ∧ blind o = false ∧ (viewOf true hd ops base j o ob p.1).alive = true ∧ okW (hd.wr j) p.1 = true) := by
  unfold resD at h
  split at h
  · cases h
  · simp only [Option.some.injEq, Prod.mk.injEq] at h
    intro p hp
    rw [← h.2] at hp
    cases hp
  · unfold coreD at h
    split at h
    · rename_i v' u' hq
      split at h
      · rename_i hok
        simp only [Option.some.injEq, Prod.mk.injEq] at h
        obtain ⟨rfl, rfl⟩ := h
        intro p hp
        have own : ∀ q : Nat × Ob, (Nat.ble (base + 64 * j) q.1 && Nat.blt q.1 (base + 64 * j + 64)) = true → base + 64 * j ≤ q.1 ∧ q.1 < base + 64 * j + 64 := fun q hq => by
          rw [Bool.and_eq_true] at hq
          exact ⟨Nat.le_of_ble_eq_true hq.1, Nat.le_of_ble_eq_true hq.2⟩
        unfold okU at hok
        rw [Bool.or_eq_true] at hok
        rcases hok with hok | hok
        · unfold ownU at hok
          rw [List.all_eq_true] at hok
          exact .inl (own p (hok p hp))
        · simp only [Bool.and_eq_true, List.all_eq_true, Bool.not_eq_true'] at hok
          have h1 := hok.2 p hp
          rw [Bool.or_eq_true] at h1
          rcases h1 with h1 | h1
          · exact .inl (own p h1)
          · rw [Bool.and_eq_true] at h1
            exact .inr ⟨hok.1.1, hok.1.2, h1⟩
      · cases h
    · cases h

/-- What a masked view shows. -/
theorem mask_alive {p hid : List Nat} {h : Nat → Ob} {k : Nat} (ha : (maskOb base p hid h k).alive = true) : (k < base ∨ (k - base) / 64 ∈ p) ∧ k ∉ hid := by
  unfold maskOb at ha
  split at ha
  · rename_i hc
    rw [Bool.and_eq_true, Bool.or_eq_true] at hc
    obtain ⟨hc, hh⟩ := hc
    refine ⟨?_, by simpa using hh⟩
    rcases hc with hc | hc
    · exact .inl (Nat.le_of_ble_eq_true hc)
    · exact .inr (by simpa using hc)
  · cases ha
theorem mask_congr {p hid : List Nat} {h h' : Nat → Ob} (hh : ∀ k, (k < base ∨ (k - base) / 64 ∈ p) → k ∉ hid → h k = h' k) : maskOb base p hid h = maskOb base p hid h' := by
  funext k
  unfold maskOb
  cases hc : ((Nat.blt k base || p.contains ((k - base) / 64)) && !hid.contains k) with
  | false => rfl
  | true =>
    simp only
    rw [Bool.and_eq_true, Bool.or_eq_true] at hc
    obtain ⟨hc, hd⟩ := hc
    refine hh k ?_ (by simpa using hd)
    rcases hc with hc | hc
    · exact .inl (Nat.le_of_ble_eq_true hc)
    · exact .inr (by simpa using hc)
theorem hidden_spec {i j k : Nat} (h : hidden hd i j = true) (hw : okW (hd.wr i) k = true) : k ∈ hd.hide j := by
  unfold hidden at h
  unfold okW at hw
  cases hq : hd.wr i with
  | none => rw [hq] at h; cases h
  | some l =>
    rw [hq] at h hw
    simp only [List.all_eq_true] at h
    have := h k (by simpa using hw)
    simpa using this
theorem view_same {o : Oper} {j k : Nat} {ob : Nat → Ob} {u : Upd} {ok : Oper} (hjk : k ∉ preds ops j) (hb : blind o = true ∨ (loud E.mode ok = false ∨ blind ok = true ∨ hidden hd k j = true))
    (hu : ∀ p ∈ u, (base + 64 * k ≤ p.1 ∧ p.1 < base + 64 * k + 64) ∨ (loud E.mode ok = true ∧ blind ok = false ∧ (viewOf true hd ops base k ok ob p.1).alive = true ∧ okW (hd.wr k) p.1 = true)) :
    viewOf true hd ops base j o (updL ob u) = viewOf true hd ops base j o ob := by
  unfold viewOf
  cases hbl : blind o with
  | true => rfl
  | false =>
    simp only
    refine mask_congr (fun i hi hh => updL_not u ob i (fun p hp he => ?_))
    rcases hu p hp with h1 | ⟨h1, h2, _, h3⟩
    · subst he
      rcases hi with hi | hi
      · omega
      · have : (p.1 - base) / 64 = k := by omega
        rw [this] at hi
        exact hjk hi
    · rcases hb with hb | hb | hb | hb
      · rw [hbl] at hb; cases hb
      · rw [h1] at hb; cases hb
      · rw [h2] at hb; cases hb
      · exact hh (he ▸ hidden_spec hb h3)

theorem indep_spec {mode : FuncId → List Bool} {i j : Nat} {x y : Oper} (h : indep mode hd ops i j x y = true) : (∀ d, x.dst = some d → d ∉ opReads ops y ∧ y.dst ≠ some d) ∧ (∀ d, y.dst = some d → d ∉ opReads ops x) ∧ (((loud mode x = false ∨ hidden hd i j = true) ∧ (loud mode y = false ∨ hidden hd j i = true)) ∨ blind x = true ∨ blind y = true) := by
  unfold indep at h
  simp only [Bool.and_eq_true] at h
  obtain ⟨⟨h1, h2⟩, h3⟩ := h
  refine ⟨fun d hd => ?_, fun d hd => ?_, ?_⟩
  · rw [hd] at h1
    simp at h1
    exact ⟨by simpa using h1.1, by simpa using h1.2⟩
  · rw [hd] at h2
    simpa using h2
  · simp only [Bool.or_eq_true, Bool.and_eq_true, Bool.not_eq_true'] at h3
    rcases h3 with (h3 | h3) | h3
    · exact .inl h3
    · exact .inr (.inl h3)
    · exact .inr (.inr h3)

theorem step_comm {i y : Nat} {oi oy : Oper} (hi : ops[i]? = some oi) (hy : ops[y]? = some oy) (hne : y ≠ i) (h1 : y ∉ preds ops i) (h2 : i ∉ preds ops y) (hind : indep E.mode hd ops y i oy oi = true) {s : St} {rest : List Nat} {x : Rg}
    (h : (stepOps E true hd ops base (y :: i :: rest) s).eval = some x) : (stepOps E true hd ops base (i :: y :: rest) s).eval = some x := by
  obtain ⟨d1, d2, d3⟩ := indep_spec hind
  rw [stepOps] at h
  obtain ⟨g1, e1, h⟩ := eval_bind h
  rw [stepOp_eval hy] at e1
  cases r1 : resD E hd ops base y oy s.slot s.ob with
  | none => rw [r1] at e1; cases e1
  | some p1 =>
    obtain ⟨v, u⟩ := p1
    rw [r1] at e1
    simp only [Option.map_some, Option.some.injEq] at e1
    subst e1
    simp only at h
    rw [stepOps] at h
    obtain ⟨g2, e2, h⟩ := eval_bind h
    rw [stepOp_eval hi] at e2
    cases r2 : resD E hd ops base i oi (putO s.slot oy.dst v) (updL s.ob u) with
    | none => simp only at e2; rw [r2] at e2; cases e2
    | some p2 =>
      obtain ⟨v2, u2⟩ := p2
      simp only at e2
      rw [r2] at e2
      simp only [Option.map_some, Option.some.injEq] at e2
      subst e2
      simp only at h
      have own1 := resD_own r1
      have r2' : resD E hd ops base i oi s.slot s.ob = some (v2, u2) := by
        rw [← r2]
        refine resD_congr (fun t ht => ?_) ?_
        · cases hd : oy.dst with
          | none => rfl
          | some d =>
            have hne : t ≠ d := fun he => (d1 d hd).1 (by rw [← he]; exact ht)
            exact (upd_other s.slot v hne).symm
        · refine (view_same (ok := oy) h1 ?_ own1).symm
          rcases d3 with d3 | d3 | d3
          · rcases d3.1 with d3 | d3
            · exact .inr (.inl d3)
            · exact .inr (.inr (.inr d3))
          · exact .inr (.inr (.inl d3))
          · exact .inl d3
      have own2 := resD_own r2'
      have r1' : resD E hd ops base y oy (putO s.slot oi.dst v2) (updL s.ob u2) = some (v, u) := by
        rw [← r1]
        refine resD_congr (fun t ht => ?_) ?_
        · cases hd : oi.dst with
          | none => rfl
          | some d =>
            have hne : t ≠ d := fun he => d2 d hd (by rw [← he]; exact ht)
            exact upd_other s.slot v2 hne
        · refine view_same (ok := oi) h2 ?_ own2
          rcases d3 with d3 | d3 | d3
          · rcases d3.2 with d3 | d3
            · exact .inr (.inl d3)
            · exact .inr (.inr (.inr d3))
          · exact .inl d3
          · exact .inr (.inr (.inl d3))
      have hdis : ∀ p ∈ u, ∀ q ∈ u2, p.1 ≠ q.1 := by
        have shown : ∀ (j : Nat) (o : Oper) (k : Nat), blind o = false → (viewOf true hd ops base j o s.ob k).alive = true → (k < base ∨ (k - base) / 64 ∈ preds ops j) ∧ k ∉ hd.hide j := fun j o k hb ha => by
          unfold viewOf at ha
          rw [hb] at ha
          exact mask_alive ha
        intro p hp q hq he
        rcases own1 p hp with a1 | ⟨a1, a2, a3, a4⟩ <;> rcases own2 q hq with b1 | ⟨b1, b2, b3, b4⟩
        · omega
        · rcases (shown i oi q.1 b2 b3).1 with c | c
          · omega
          · have : (q.1 - base) / 64 = y := by omega
            rw [this] at c
            exact h1 c
        · rcases (shown y oy p.1 a2 a3).1 with c | c
          · omega
          · have : (p.1 - base) / 64 = i := by omega
            rw [this] at c
            exact h2 c
        · rcases d3 with d3 | d3 | d3
          · rcases d3.1 with d3 | d3
            · rw [d3] at a1; cases a1
            · exact (shown i oi q.1 b2 b3).2 (he ▸ hidden_spec d3 a4)
          · rw [d3] at a2; cases a2
          · rw [d3] at b2; cases b2
      rw [stepOps]
      have f1 : (stepOp E true hd ops base s i).eval = some (Rg.go { s with slot := putO s.slot oi.dst v2, ob := updL s.ob u2 }) := by rw [stepOp_eval hi, r2']; rfl
      rw [bind_eval f1]
      simp only
      rw [stepOps]
      have f2 : (stepOp E true hd ops base { s with slot := putO s.slot oi.dst v2, ob := updL s.ob u2 } y).eval = some (Rg.go { s with slot := putO (putO s.slot oi.dst v2) oy.dst v, ob := updL (updL s.ob u2) u }) := by rw [stepOp_eval hy]; simp only; rw [r1']; rfl
      rw [bind_eval f2]
      simp only
      rw [putO_comm (fun d hd => (d1 d hd).2), updL_comm u u2 s.ob hdis] at h
      exact h
end
end Go.AH
