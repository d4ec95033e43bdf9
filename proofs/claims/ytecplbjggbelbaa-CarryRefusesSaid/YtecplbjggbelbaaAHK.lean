/- Operations that make rows, and that write. -/
import Derived.Test.YtecplbjggbelbaaAHN
namespace Go.AH
open Go Go.RowKit

theorem zero_rows (z : Array Value) (hz : 0 < z.size) : ∀ n : Nat, ((Array.range (n * z.size)).map (z[· % z.size]!)) = (List.replicate n z.toList).flatten.toArray := by
  intro n
  apply Array.toList_inj.1
  simp only [Array.toList_map, Array.toList_range]
  induction n with
  | zero => simp
  | succ n ih =>
    rw [Nat.succ_mul, List.range_add, List.map_append, ih, List.replicate_succ', List.flatten_append]
    congr 1
    simp only [List.map_map, List.flatten_cons, List.flatten_nil, List.append_nil]
    apply List.ext_getElem?
    intro i
    by_cases hi : i < z.size
    · rw [List.getElem?_map, List.getElem?_range hi]
      simp [Nat.add_mod, Nat.mod_eq_of_lt hi, hi]
    · rw [List.getElem?_eq_none (by simp; omega), List.getElem?_eq_none (by simp; omega)]

section
variable {E : Env} {P : Program} {Z : Nat → Prop} {h view : Nat → Ob} {β : Nat → Loc} {w : World} {s : Nat → V} {a : Act} {fr : Nat} {o : Oper} {r : Rs}

theorem Elems.zeros {T : TypeId → Ty} {O : Nat → Prop} {t : TypeId} (row : Row P t (T t)) {z : Value} (hz : (zeroValue t).run P w = .ok z w) (n : Nat) : Elems T w O t (List.replicate n (zeroT (T t))) (List.replicate n z.cells.toList) ∧ z.cells.size = (T t).size := by
  obtain ⟨z', hz', h1, h2, h3⟩ := row.rep_zero (T := T) (w := w) (O := O) w noR
  rw [hz] at hz'
  simp only [Result.ok.injEq, and_true] at hz'
  subst hz'
  obtain ⟨f1, f2⟩ := row.form_zero
  refine ⟨⟨by simp, fun cs hc => ?_, fun k v cs hv hc => ?_⟩, h3⟩
  · rw [(List.mem_replicate.1 hc).2]; simpa using h3
  · have hv' := (List.mem_replicate.1 (List.mem_of_getElem? hv)).2
    have hc' := (List.mem_replicate.1 (List.mem_of_getElem? hc)).2
    subst hv' hc'
    exact ⟨⟨f1, f2⟩, (rep_mkVal row f1 h2).1⟩
theorem maxLen_big : lim ≤ maxLen := by unfold lim maxLen; omega
/-- A new row, in a block of its own. -/
theorem cx_newRow {T : TypeId → Ty} {G : Nat → V} (cx : Cx T G Z h β w) (hfr : h fr = .dead) {t : TypeId} (ht : (T t).ok = true) {vs : List V} {css : List (List Value)} (e : Elems T w (Own Z h β) t vs css) (hm : vs.length ≤ lim) :
    Cx T G Z (updL h [(fr, .row false 0 t vs)]) (upd β fr ⟨w.heap.size, vs.length, false⟩) (w.alloc (.cells css.flatten.toArray t)) ∧ Stp h β w (updL h [(fr, .row false 0 t vs)]) (upd β fr ⟨w.heap.size, vs.length, false⟩) (w.alloc (.cells css.flatten.toArray t)) ∧
    RefRep T (updL h [(fr, .row false 0 t vs)]) (upd β fr ⟨w.heap.size, vs.length, false⟩) (.full t fr 0 vs.length) (.slice (some ⟨w.heap.size, 0, none⟩) vs.length vs.length) := by
  obtain ⟨c1, c2⟩ := cx_alloc cx hfr (.cells css.flatten.toArray t) (.row false 0 t vs) vs.length rfl (fun O' R' hk hR => by
    refine ⟨ht, .inr ⟨rfl, css.flatten.toArray, heap_alloc_new' w _, Nat.le_refl _, Nat.le_trans hm maxLen_big, ?_, ?_⟩⟩
    · simp only [List.size_toArray]
      rw [flatten_len css _ e.size, e.len]
    · refine (e.kept hk).seq ?_
      have := Lies.of_block (heap_alloc_new' w (.cells css.flatten.toArray t))
      simpa using this)
  refine ⟨c1, c2, ⟨false, 0, t, vs, by rw [updL, updL, upd_same], Nat.le_refl _, ⟨_, _, rfl, Nat.le_refl _, fun _ => ⟨_, _, rfl⟩⟩, fun _ => ⟨rfl, rfl, by rw [upd_same]; rfl⟩⟩⟩
theorem op_nil (c : Ctx E P Z h view β w s a) (hfr : h fr = .dead) (ho : o.op = .assign (.const (.slice none 0 0))) (he : (evOp E view s fr o).eval = some r) : Does E P Z h β w a fr o r := by
  simp only [evOp, ho] at he
  split at he
  · rename_i e hd
    split at he
    · rename_i hok
      simp only [newRow, Tr.eval, Option.some.injEq] at he
      obtain ⟨c1, c2⟩ := c.cx.update (w' := w) fr (.row false 0 e []) ⟨0, 0, true⟩ rfl rfl rfl (Nat.le_refl _) (fun _ _ _ => rfl) rfl (fun hn => by cases hn) (by rw [hfr]; exact trivial) (fun _ _ => ⟨hok, .inl ⟨rfl, rfl, rfl⟩⟩)
      refine ⟨_, _, .slice none 0 0, w, _, he.symm, .inl (by simp [execOp, ho, Act.eval]), c1, c2, ⟨false, 0, e, [], by rw [updL, updL, upd_same], Nat.le_refl _, ⟨_, _, rfl, Nat.le_refl _, fun h => absurd rfl h⟩, fun _ => ⟨rfl, rfl, by rw [upd_same]; rfl⟩⟩, touch_upd (.inr ⟨Nat.le_refl _, by omega⟩)⟩
    · simp [Tr.eval] at he
  · simp [Tr.eval] at he
theorem op_buildSlice (c : Ctx E P Z h view β w s a) (hfr : h fr = .dead) {t : TypeId} {len : Nat} {parts : Array (Nat × Operand)} (ho : o.op = .buildSlice t len parts) (he : (evOp E view s fr o).eval = some r) : Does E P Z h β w a fr o r := by
  simp only [evOp, ho] at he
  split at he
  · rename_i e hd
    split at he
    · rename_i hc
      rw [Bool.and_eq_true] at hc
      have hlen := Nat.le_of_ble_eq_true hc.1
      have row := c.ty.row hc.2
      obtain ⟨hu, _⟩ := (c.ty.row (ok_of hd (by simp))).slice hd
      cases hq : fillRow (E.ty e) (ev E s) parts.toList (List.replicate len (zeroT (E.ty e))) with
      | none => rw [hq] at he; simp [optTr, Tr.eval] at he
      | some vs =>
        rw [hq] at he
        simp only [optTr, newRow, Tr.eval, Option.some.injEq] at he
        obtain ⟨z, hz, _⟩ := row.rep_zero (T := E.ty) (w := w) (O := Own Z h β) w noR
        obtain ⟨e0, hzs⟩ := Elems.zeros (w := w) (O := Own Z h β) row hz len
        obtain ⟨css, e1, hfill⟩ := fillRow_sound c row parts.toList _ vs _ e0 hq
        have hvl : vs.length = len := by
          have : ∀ (ps : List (Nat × Operand)) (us us' : List V), fillRow (E.ty e) (ev E s) ps us = some us' → us'.length = us.length := by
            intro ps
            induction ps with
            | nil => intro us us' h; simp [fillRow] at h; rw [h]
            | cons p ps ih =>
              intro us us' h
              obtain ⟨i, x⟩ := p
              unfold fillRow at h
              split at h
              · split at h
                · rw [ih _ _ h]; simp
                · cases h
              · cases h
          rw [this _ _ _ hq]; simp
        obtain ⟨c1, c2, c3⟩ := cx_newRow c.cx hfr hc.2 e1 (by rw [hvl]; unfold lim; omega)
        refine ⟨_, _, .slice (some ⟨w.heap.size, 0, none⟩) vs.length vs.length, w.alloc (.cells css.flatten.toArray e), _, he.symm, .inl ?_, c1, c2, c3, touch_upd (.inr ⟨Nat.le_refl _, by omega⟩)⟩
        have hpos := row.pos
        have hbig : ¬ (len * (E.ty e).size > 2 ^ 24) := by
          have := row.small
          have : len * (E.ty e).size ≤ 65536 * 255 := Nat.mul_le_mul hlen this
          omega
        have hcells : ((Array.range (len * (E.ty e).size)).map (z.cells[· % z.cells.size]!)) = (List.replicate len z.cells.toList).flatten.toArray := by
          rw [← hzs]
          exact zero_rows z.cells (by rw [hzs]; exact hpos) len
        have hfill2 : Instr.fill (fun i => some (i * (E.ty e).size, (E.ty e).size)) (List.replicate len z.cells.toList).flatten.toArray (parts.map fun (i, x) => (i, a.eval x)).toList = some css.flatten.toArray := by simpa using hfill
        rw [hvl]
        simp only [execOp, ho, Instr.buildSlice, Sem.run_bind, run_underlying hu, Result.andThen_ok, row.size]
        rw [if_neg hbig]
        by_cases h0 : len * (E.ty e).size = 0
        · have hl0 : len = 0 := by
            rcases Nat.mul_eq_zero.1 h0 with h | h
            · exact h
            · omega
          have hc0 : ((Array.range (len * (E.ty e).size)).map ((#[] : Array Value)[· % (#[] : Array Value).size]!)) = (List.replicate len z.cells.toList).flatten.toArray := by
            rw [h0, hl0]; simp
          simp only [if_pos h0, Sem.run_bind, Result.andThen_ok, Sem.run_pure, hc0, hfill2]
          rfl
        · simp only [if_neg h0, Sem.run_bind, hz, Result.andThen_ok, Sem.run_pure, hcells, hfill2]
          rfl
    · simp [Tr.eval] at he
  · simp [Tr.eval] at he
theorem op_makeSlice (c : Ctx E P Z h view β w s a) (hfr : h fr = .dead) {t : TypeId} {x y : Operand} (ho : o.op = .makeSlice t x y) (he : (evOp E view s fr o).eval = some r) : Does E P Z h β w a fr o r := by
  simp only [evOp, ho] at he
  split at he
  · rename_i e n m hd hn hm
    obtain ⟨h1, h2⟩ := eval_test he
    simp only [Bool.and_eq_true, decide_eq_true_eq] at h1
    obtain ⟨⟨⟨hok, h3⟩, rfl⟩, h4⟩ := h1
    have row := c.ty.row hok
    obtain ⟨hu, _⟩ := (c.ty.row (ok_of hd (by simp))).slice hd
    simp only [newRow, Tr.eval, Option.some.injEq] at h2
    have hx := c.val x
    have hy := c.val y
    rw [hn] at hx
    rw [hm] at hy
    have hx' : a.eval x = .int .i64 n := hx
    have hy' : a.eval y = .int .i64 n := hy
    obtain ⟨z, hz, _⟩ := row.rep_zero (T := E.ty) (w := w) (O := Own Z h β) w noR
    obtain ⟨e0, hzs⟩ := Elems.zeros (w := w) (O := Own Z h β) row hz n.toNat
    have hlen : (List.replicate n.toNat (zeroT (E.ty e))).length = n.toNat := by simp
    obtain ⟨c1, c2, c3⟩ := cx_newRow c.cx hfr hok e0 (by rw [hlen]; unfold lim at h4 ⊢; omega)
    refine ⟨_, _, .slice (some ⟨w.heap.size, 0, none⟩) (List.replicate n.toNat (zeroT (E.ty e))).length (List.replicate n.toNat (zeroT (E.ty e))).length, w.alloc (.cells (List.replicate n.toNat z.cells.toList).flatten.toArray e), _, h2.symm, .inl ?_, c1, c2, c3, touch_upd (.inr ⟨Nat.le_refl _, by omega⟩)⟩
    rw [hlen]
    have hw : IntKind.i64.wrap n = n := by
      unfold lim at h4
      simp [IntKind.wrap, IntKind.bits, IntKind.signed]
      omega
    obtain ⟨it, zt, hit, hs1, hs2, _⟩ := row.info
    have hby := row.bytes
    have hlarge : ¬ ((it.bytes : Int) * n > 2 ^ 48) := by
      rw [hs2]
      unfold lim at h4
      have : ((E.ty e).bytes : Int) * n ≤ 32768 * 4294967296 := Int.mul_le_mul (by omega) (by omega) h3 (by omega)
      omega
    have hpos := row.pos
    have hcells : ((Array.range (n.toNat * (E.ty e).size)).map (z.cells[· % z.cells.size]!)) = (List.replicate n.toNat z.cells.toList).flatten.toArray := by
      rw [← hzs]
      exact zero_rows z.cells (by rw [hzs]; exact hpos) _
    simp only [execOp, ho, hx', hy', Instr.makeSlice, Sem.run_bind, run_underlying hu, Result.andThen_ok, asInt, asIntOf, Sem.run_pure, typeInfo, run_program, hit, hw]
    rw [if_neg (by simp; omega)]
    simp only [Sem.run_bind, run_askRoom, Result.andThen_ok, row.size]
    by_cases h0 : n.toNat * (E.ty e).size = 0
    · have hl0 : n.toNat = 0 := by
        rcases Nat.mul_eq_zero.1 h0 with h | h
        · exact h
        · omega
      have hc0 : ((Array.range (n.toNat * (E.ty e).size)).map ((#[] : Array Value)[· % (#[] : Array Value).size]!)) = (List.replicate n.toNat z.cells.toList).flatten.toArray := by
        rw [h0, hl0]; simp
      simp only [if_pos h0, Sem.run_bind, Result.andThen_ok, Sem.run_pure, hc0]
      rfl
    · simp only [if_neg h0, Sem.run_bind, hz, Result.andThen_ok, Sem.run_pure, hcells]
      rfl
  · simp [Tr.eval] at he

/- Stores. -/
theorem RepL.set {T : TypeId → Ty} {O : Nat → Prop} {R : V → Value → Prop} {cs us : List V} {l m : List Value} (j : Nat) (h1 : RepL T w O cs R l) (h2 : RepL T w O us R m) : RepL T w O (cs.take j ++ us ++ cs.drop (j + us.length)) R (l.take j ++ m ++ l.drop (j + m.length)) := by
  rw [h2.length]
  exact ((h1.take j).append h2).append (h1.drop _)
theorem RepL.oneAll {T : TypeId → Ty} {O : Nat → Prop} {R : V → Value → Prop} (hR : ∀ r y, R r y → y.oneCell' = true) : ∀ {cs : List V} {l : List Value}, RepL T w O cs R l → cs.all V.storable = true → ∀ u ∈ l, u.oneCell' = true
  | [], l, h, _, u, hu => by rw [show l = [] from h] at hu; cases hu
  | c :: cs, l, h, hs, u, hu => by
    obtain ⟨x, r, rfl, h1, h2⟩ := h
    rw [List.all_cons, Bool.and_eq_true] at hs
    rcases List.mem_cons.1 hu with rfl | hu
    · exact h1.one hs.1 hR
    · exact RepL.oneAll hR h2 hs.2 u hu
theorem op_store_box (c : Ctx E P Z h view β w s a) {t : TypeId} {x y : Operand} {i j : Nat} (hi : ev E s x = .box i j) (ho : o.op = .store t x y) (he : (evOp E view s fr o).eval = some r) : Does E P Z h β w a fr o r := by
  simp only [evOp, ho, hi] at he
  split at he
  · rename_i cs hq
    split at he
    · rename_i hc
      simp only [Bool.and_eq_true] at hc
      obtain ⟨⟨⟨hok, h1⟩, h2⟩, h3⟩ := hc
      simp only [Tr.eval, Option.some.injEq] at he
      have row := c.ty.row hok
      have hsz := nat_of_beq h1
      have hle := Nat.le_of_ble_eq_true h2
      have hx := c.val x
      rw [hi] at hx
      obtain ⟨_, hx⟩ := hx
      have hib := c.sees.at_ hq (by simp)
      have hob := c.cx.ob i
      rw [hib] at hob
      obtain ⟨hn, arr, e, hb, hrep⟩ := hob
      have hcells := (c.val y).cells (by
        cases hv : ev E s y with
        | agg cs => exact .inl rfl
        | _ =>
          right
          rw [hv] at h3
          simpa [V.cells] using h3) refOne
      have hlen := hcells.length
      have hl2 := hrep.length
      have hone := RepL.oneAll refOne hcells h3
      have hysz : (a.eval y).cells.size = (E.ty t).size := by rw [← hsz, ← hlen]; simp
      have hst := run_storeCells_at P (β i).b j e (a.eval y).cells.toList 0 arr w hb (by simp at hl2 hlen ⊢; omega) hone
      simp only [Nat.add_zero] at hst
      obtain ⟨W', hW'⟩ : ∃ W', W' = w.setRow (β i).b (arr.toList.take j ++ (a.eval y).cells.toList ++ arr.toList.drop (j + (a.eval y).cells.toList.length)).toArray := ⟨_, rfl⟩
      rw [← hW'] at hst
      have hmine : Mine h β i := ⟨by rw [hib]; rfl, hn⟩
      obtain ⟨c1, c2⟩ := c.cx.update (w' := W') i (.box false (cs.take j ++ (ev E s y).cells ++ cs.drop (j + (ev E s y).cells.length))) (β i) (by rw [hW']; rfl) (by rw [hW']; rfl) (by rw [hW']; rfl) (by rw [hW']; simp) (fun b hb2 hne => by rw [hW']; exact setRow_other _ _ _ _ (Ne.symm (hne hmine))) rfl (fun _ => .inl ⟨hmine, rfl⟩)
        (by rw [hib]; exact ⟨⟨_, _, rfl⟩, rfl⟩) (fun hk hR => by
          refine ⟨hn, _, e, by rw [hW']; exact setRow_heap _ _ _ _ _ _ hb, ?_⟩
          have := (hrep.set j hcells)
          exact RepL.kept hk _ _ _ _ hR this)
      refine ⟨_, _, undef, W', _, he.symm, .inr ⟨?_, rfl⟩, c1, c2, trivial, touch_upd (.inl (by rw [hib]; rfl))⟩
      simp only [execOp, ho, hx, Instr.storeAt, Instr.sureAddr, storeVar, Sem.run_bind, Sem.run_pure, Result.andThen_ok, row.size]
      rw [if_neg (by rw [hysz]; exact fun h => h rfl), hst]
      rfl
    · simp [Tr.eval] at he
  · simp [Tr.eval] at he

/-- One element of a row, at its place, with another one in it. -/
theorem RepSeq.set {T : TypeId → Ty} {w' : World} {O O' : Nat → Prop} {t b : Nat} (hk : Kept w w' O O') {v : V} {cs : List Value} : ∀ {vs : List V} {off k : Nat}, RepSeq T w O vs t b off → k < vs.length →
    (∀ j, (j < k * (T t).size ∨ k * (T t).size + (T t).size ≤ j) → w'.cell? ⟨b, off + j, none⟩ = w.cell? ⟨b, off + j, none⟩) →
    (isFormT (T t) v = true ∧ etaT (T t) v = v) → cs.length = (T t).size → Lies w' b (off + k * (T t).size) cs → Rep T w' O' v noR (mkVal (T t).agg cs) → RepSeq T w' O' (vs.set k v) t b off
  | [], _, _, _, hk2, _, _, _, _, _ => by simp at hk2
  | u :: vs, off, 0, ⟨h1, ⟨cs0, h2, h3, h4⟩, h5⟩, _, hs, hf, hl, hlie, hr => by
    rw [List.set_cons_zero]
    refine ⟨hf, ⟨cs, hl, by simpa using hlie, hr⟩, ?_⟩
    have same : ∀ (vs : List V) (off2 : Nat), off + (T t).size ≤ off2 → RepSeq T w O vs t b off2 → RepSeq T w' O' vs t b off2 := by
      intro vs
      induction vs with
      | nil => intro _ _ _; trivial
      | cons u vs ih =>
        intro off2 hle ⟨g1, ⟨c0, g2, g3, g4⟩, g5⟩
        refine ⟨g1, ⟨c0, g2, fun j x hj => ?_, Rep.kept hk _ _ _ _ (fun _ _ h => h) g4⟩, ih _ (by omega) g5⟩
        have := hs (off2 + j - off) (.inr (by omega))
        rw [show off + (off2 + j - off) = off2 + j from by omega] at this
        rw [this]
        exact g3 j x hj
    exact same vs _ (Nat.le_refl _) h5
  | u :: vs, off, k + 1, ⟨h1, ⟨cs0, h2, h3, h4⟩, h5⟩, hk2, hs, hf, hl, hlie, hr => by
    rw [List.set_cons_succ]
    refine ⟨h1, ⟨cs0, h2, fun j x hj => ?_, Rep.kept hk _ _ _ _ (fun _ _ h => h) h4⟩, ?_⟩
    · have hj2 := (List.getElem?_eq_some_iff.1 hj).1
      rw [hs j (.inl (by rw [Nat.succ_mul]; omega))]
      exact h3 j x hj
    · refine RepSeq.set hk h5 (by simpa using hk2) (fun j hj => ?_) hf hl (by rw [Nat.succ_mul] at hlie; rw [show off + (T t).size + k * (T t).size = off + (k * (T t).size + (T t).size) from by omega]; exact hlie) hr
      have := hs ((T t).size + j) (by
        rcases hj with hj | hj
        · left; rw [Nat.succ_mul]; omega
        · right; rw [Nat.succ_mul]; omega)
      rwa [← Nat.add_assoc] at this
theorem isFormL_append : ∀ {ks ls : List Kd} {as bs : List V}, isFormL ks as = true → isFormL ls bs = true → isFormL (ks ++ ls) (as ++ bs) = true
  | [], _, [], _, _, h => h
  | [], _, _ :: _, _, h, _ => by simp [isFormL] at h
  | _ :: _, _, [], _, h, _ => by simp [isFormL] at h
  | k :: ks, ls, a :: as, bs, h, g => by
    rw [isFormL, Bool.and_eq_true] at h
    simp only [List.cons_append, isFormL, Bool.and_eq_true]
    exact ⟨h.1, isFormL_append h.2 g⟩
theorem isFormL_take : ∀ {ks : List Kd} {as : List V} (n : Nat), isFormL ks as = true → isFormL (ks.take n) (as.take n) = true
  | _, _, 0, _ => by simp [isFormL]
  | [], [], n + 1, _ => rfl
  | [], _ :: _, _, h => by simp [isFormL] at h
  | _ :: _, [], _, h => by simp [isFormL] at h
  | k :: ks, a :: as, n + 1, h => by
    rw [isFormL, Bool.and_eq_true] at h
    simp only [List.take_succ_cons, isFormL, Bool.and_eq_true]
    exact ⟨h.1, isFormL_take n h.2⟩
theorem isFormL_drop : ∀ {ks : List Kd} {as : List V} (n : Nat), isFormL ks as = true → isFormL (ks.drop n) (as.drop n) = true
  | _, _, 0, h => by simpa using h
  | [], [], n + 1, _ => rfl
  | [], _ :: _, _, h => by simp [isFormL] at h
  | _ :: _, [], _, h => by simp [isFormL] at h
  | k :: ks, a :: as, n + 1, h => by
    rw [isFormL, Bool.and_eq_true] at h
    simpa using isFormL_drop n h.2
theorem isFormL_len : ∀ {ks : List Kd} {l : List V}, isFormL ks l = true → l.length = ks.length
  | [], [], _ => rfl
  | [], _ :: _, h => by simp [isFormL] at h
  | _ :: _, [], h => by simp [isFormL] at h
  | _ :: _, _ :: _, h => by rw [isFormL, Bool.and_eq_true] at h; simp [isFormL_len h.2]
theorem etaL_etaL (ks : List Kd) (v : V) : etaL ks 0 (.agg (etaL ks 0 v)) = etaL ks 0 v :=
  etaL_self (etaL_len ks 0 v) (fun i => by simp [V.cell, V.cells]) (fun i k c h1 h2 => by
    rw [etaL_get ks 0 v i k h1] at h2
    simp at h2
    subst h2
    exact eta_eta _ _)

def Stab (ks : List Kd) (cs : List V) : Prop := ∀ (i : Nat) (k : Kd) (c : V), ks[i]? = some k → cs[i]? = some c → eta k c = c
theorem Stab.append {ks ls : List Kd} {as bs : List V} (h : Stab ks as) (g : Stab ls bs) (hl : as.length = ks.length) : Stab (ks ++ ls) (as ++ bs) := by
  intro i k c h1 h2
  by_cases hi : i < ks.length
  · rw [List.getElem?_append_left hi] at h1
    rw [List.getElem?_append_left (by omega)] at h2
    exact h i k c h1 h2
  · rw [List.getElem?_append_right (by omega)] at h1
    rw [List.getElem?_append_right (by omega), hl] at h2
    exact g _ k c h1 h2
theorem Stab.take {ks : List Kd} {as : List V} (n : Nat) (h : Stab ks as) : Stab (ks.take n) (as.take n) := by
  intro i k c h1 h2
  rw [List.getElem?_take] at h1 h2
  split at h1
  · rw [if_pos ‹_›] at h2
    exact h i k c h1 h2
  · cases h1
theorem Stab.drop {ks : List Kd} {as : List V} (n : Nat) (h : Stab ks as) : Stab (ks.drop n) (as.drop n) := by
  intro i k c h1 h2
  rw [List.getElem?_drop] at h1 h2
  exact h _ k c h1 h2
theorem Stab.etaL (ks : List Kd) (v : V) : Stab ks (etaL ks 0 v) := by
  intro i k c h1 h2
  rw [etaL_get ks 0 v i k h1] at h2
  simp at h2
  subst h2
  exact eta_eta _ _
/-- The cells of a value of a form. -/
theorem form_cells {ty : Ty} {t : TypeId} (row : Row P t ty) {v : V} (hf : isFormT ty v = true) (he : etaT ty v = v) : isFormL ty.kinds v.cells = true ∧ Stab ty.kinds v.cells := by
  have ho := fun ha => row.one ha
  obtain ⟨size, agg, bytes, kinds, d, eq⟩ := ty
  cases agg with
  | true =>
    cases v <;> simp [isFormT] at hf
    rename_i cs
    have : AH.etaL kinds 0 (.agg cs) = cs := by simpa [etaT] using he
    refine ⟨hf, ?_⟩
    show Stab kinds cs
    rw [← this]
    exact Stab.etaL _ _
  | false =>
    obtain ⟨_, k, hk⟩ := ho rfl
    simp only at hk
    subst hk
    have hv : v.cells = [v] := by
      cases v <;> first | rfl | (cases k <;> simp [isFormT, isForm] at hf)
    rw [hv]
    refine ⟨by simpa [isFormL, isFormT] using hf, fun i k' c h1 h2 => ?_⟩
    cases i with
    | zero => simp at h1 h2; subst h1 h2; exact he
    | succ i => simp at h1
theorem pack_form {T : TypeId → Ty} {O : Nat → Prop} {R : V → Value → Prop} {ty : Ty} {t : TypeId} (row : Row P t ty) {L : List V} {cs : List Value} (hf : isFormL ty.kinds L = true) (hs : Stab ty.kinds L) (hr : RepL T w O L R cs) :
    isFormT ty (pack ty.agg L) = true ∧ etaT ty (pack ty.agg L) = pack ty.agg L ∧ Rep T w O (pack ty.agg L) R (mkVal ty.agg cs) ∧ cs.length = ty.size := by
  have ho := fun ha => row.one ha
  have hl := row.len
  have h1 := hr.length
  have h2 := isFormL_len hf
  obtain ⟨size, agg, bytes, kinds, d, eq⟩ := ty
  simp only at hl h2
  cases agg with
  | true =>
    have h5 := etaL_self (ks := kinds) (cs := L) (j := 0) (v := .agg L) (isFormL_len hf) (fun i => by simp [V.cell, V.cells]) hs
    refine ⟨hf, congrArg V.agg h5, ⟨cs.toArray, rfl, hr⟩, ?_⟩
    show cs.length = size
    omega
  | false =>
    obtain ⟨h3, k, hk⟩ := ho rfl
    simp only at hk h3
    subst hk
    match L, hf, hs, hr with
    | [c], hf, hs, hr =>
      obtain ⟨x, rest, rfl, h4, h5⟩ := hr
      rw [show rest = [] from h5]
      exact ⟨by simpa [isFormL, isFormT, pack] using hf, hs 0 k c rfl rfl, h4, by simp [h3]⟩
    | [], hf, _, _ => simp [isFormL] at hf
    | _ :: _ :: _, hf, _, _ => simp [isFormL] at hf
theorem refsL_cells (v : V) : V.refsL v.cells = v.refs := by
  cases v <;> simp [V.cells, V.refsL, V.refs]
theorem cells_noR {T : TypeId → Ty} {O : Nat → Prop} {v : V} {l : List Value} (hr : RepL T w O v.cells (RefRep T h β) l) (hn : v.noRef = true) : RepL T w O v.cells noR l := by
  refine RepL.refs _ _ _ _ (fun r y hi h1 => ?_) hr
  rw [refsL_cells] at hi
  have he : v.refs = [] := by simpa [V.noRef] using hn
  have hne := h1.refs
  cases hq : r.refs with
  | nil => exact absurd hq hne
  | cons i l =>
    have := hi i (by rw [hq]; simp)
    rw [he] at this
    cases this
theorem op_store_elt (c : Ctx E P Z h view β w s a) {t : TypeId} {x y : Operand} {i g k j : Nat} (hi : ev E s x = .elt i g k j) (ho : o.op = .store t x y) (he : (evOp E view s fr o).eval = some r) : Does E P Z h β w a fr o r := by
  simp only [evOp, ho, hi] at he
  split at he
  · rename_i g' e vs hq
    split at he
    · rename_i hc
      simp only [Bool.and_eq_true] at hc
      obtain ⟨⟨⟨⟨⟨hok, hg⟩, h1⟩, h2⟩, h3⟩, h4⟩ := hc
      simp only [Tr.eval, Option.some.injEq] at he
      have row := c.ty.row hok
      have hgg := nat_of_beq hg
      subst hgg
      have hsz := nat_of_beq h1
      have hle := Nat.le_of_ble_eq_true h2
      have hx := c.val x
      rw [hi] at hx
      have hib := c.sees.at_ hq (by simp)
      obtain ⟨ro, g2, t2, vs2, hi2, _, _, hx⟩ := hx
      rw [hib] at hi2
      simp only [Ob.row.injEq] at hi2
      obtain ⟨rfl, rfl, rfl, rfl⟩ := hi2
      obtain ⟨hk, hx⟩ := hx rfl
      have hob := c.cx.ob i
      rw [hib] at hob
      obtain ⟨hte, hob | ⟨hn, cur, hb, hcap, hmax, hcs, hseq⟩⟩ := hob
      · rw [hob.2.1] at hk; simp at hk
      · have rowe := c.ty.row hte
        have hkk : vs[k]? = some vs[k] := List.getElem?_eq_getElem hk
        obtain ⟨f1, f2, cs', h6, h7, h8⟩ := RepSeq.get hseq hkk
        rw [Nat.zero_add] at h7
        have hgd : vs.getD k .top = vs[k] := by rw [List.getD_eq_getElem?_getD, hkk]; rfl
        rw [hgd, f2] at he
        obtain ⟨fl, fs⟩ := form_cells rowe f1 f2
        have hold := mkVal_rep rowe f1 h6 h8
        have hycells := (c.val y).cells (by
          cases hv : ev E s y with
          | agg cs => exact .inl rfl
          | _ =>
            right
            rw [hv] at h3
            have : ∀ (ks : List Kd) (v : V), isFormL ks [v] = true → v.storable = true := by
              intro ks v hh
              match ks, hh with
              | [k], hh => rw [isFormL, Bool.and_eq_true] at hh; exact form_storable hh.1
              | [], hh => simp [isFormL] at hh
              | _ :: _ :: _, hh => simp [isFormL] at hh
            exact this _ _ h3) refOne
        have hyn := cells_noR hycells h4
        have hes := hyn.etaL (ks := ((E.ty e).kinds.drop j).take (ev E s y).cells.length) (j := 0) (v := .agg (ev E s y).cells) h3 (fun i => by simp [V.cell, V.cells])
        have hlen := hyn.length
        have hysz : (a.eval y).cells.size = (E.ty t).size := by rw [← hsz, ← hlen]; simp
        have hfe : isFormL (((E.ty e).kinds.drop j).take (ev E s y).cells.length) (AH.etaL (((E.ty e).kinds.drop j).take (ev E s y).cells.length) 0 (.agg (ev E s y).cells)) = true := isFormL_etaL _ _ 0 _ h3 (fun i => by simp [V.cell, V.cells])
        have hkinds : (E.ty e).kinds = (E.ty e).kinds.take j ++ ((E.ty e).kinds.drop j).take (ev E s y).cells.length ++ (E.ty e).kinds.drop (j + (ev E s y).cells.length) := by
          rw [List.append_assoc, ← List.drop_drop, List.take_append_drop, List.take_append_drop]
        have hlk := rowe.len
        have hcl := isFormL_len fl
        have hLf := isFormL_append (isFormL_append (isFormL_take j fl) hfe) (isFormL_drop (j + (ev E s y).cells.length) fl)
        have hLs := Stab.append (Stab.append (fs.take j) (Stab.etaL (((E.ty e).kinds.drop j).take (ev E s y).cells.length) (.agg (ev E s y).cells)) (by simp; omega)) (fs.drop (j + (ev E s y).cells.length)) (by simp [etaL_len]; omega)
        rw [← hkinds] at hLf hLs
        have hLr := ((hold.take j).append hes).append (hold.drop (j + (ev E s y).cells.length))
        obtain ⟨p1, p2, p3, p4⟩ := pack_form rowe hLf hLs hLr
        have hone : ∀ u ∈ (a.eval y).cells.toList, u.oneCell' = true := by
          refine RepL.oneAll (R := noR) (fun r y h => h.elim) hyn ?_
          have : ∀ (ks : List Kd) (cs : List V), isFormL ks cs = true → cs.all V.storable = true := by
            intro ks
            induction ks with
            | nil => intro cs h; cases cs <;> simp [isFormL] at h ⊢
            | cons k ks ih =>
              intro cs h
              cases cs with
              | nil => simp [isFormL] at h
              | cons c cs =>
                rw [isFormL, Bool.and_eq_true] at h
                rw [List.all_cons, Bool.and_eq_true]
                exact ⟨form_storable h.1, ih cs h.2⟩
          exact this _ _ h3
        have hpos := rowe.pos
        have hfit : k * (E.ty e).size + (E.ty e).size ≤ cur.size := by
          rw [hcs, ← Nat.succ_mul]
          exact Nat.mul_le_mul_right _ (by omega)
        have hjl : j + (a.eval y).cells.size ≤ (E.ty e).size := by rw [hysz, ← hsz]; omega
        have hst := run_storeCells_at P (β i).b (k * (E.ty e).size + j) e (a.eval y).cells.toList 0 cur w hb (by simp; omega) hone
        simp only [Nat.add_zero] at hst
        obtain ⟨W', hW'⟩ : ∃ W', W' = w.setRow (β i).b (cur.toList.take (k * (E.ty e).size + j) ++ (a.eval y).cells.toList ++ cur.toList.drop (k * (E.ty e).size + j + (a.eval y).cells.toList.length)).toArray := ⟨_, rfl⟩
        rw [← hW'] at hst
        have hmine : Mine h β i := ⟨by rw [hib]; rfl, hn⟩
        have hWb : W'.heap[(β i).b]? = some (.cells (cur.toList.take (k * (E.ty e).size + j) ++ (a.eval y).cells.toList ++ cur.toList.drop (k * (E.ty e).size + j + (a.eval y).cells.toList.length)).toArray e (0, 0)) := by rw [hW']; exact setRow_heap _ _ _ _ _ _ hb
        have hcell : ∀ m, W'.cell? ⟨(β i).b, m, none⟩ = (cur.toList.take (k * (E.ty e).size + j) ++ (a.eval y).cells.toList ++ cur.toList.drop (k * (E.ty e).size + j + (a.eval y).cells.toList.length))[m]? := by
          intro m
          simp [World.cell?, hWb]
        have hcell0 : ∀ m, w.cell? ⟨(β i).b, m, none⟩ = cur.toList[m]? := by intro m; simp [World.cell?, hb]
        have hcur : cur.toList.length = cur.size := by simp
        have hyl : (a.eval y).cells.toList.length = (a.eval y).cells.size := by simp
        obtain ⟨c1, c2⟩ := c.cx.update (w' := W') i (.row false g e (vs.set k (pack (E.ty e).agg (vs[k].cells.take j ++ AH.etaL (((E.ty e).kinds.drop j).take (ev E s y).cells.length) 0 (.agg (ev E s y).cells) ++ vs[k].cells.drop (j + (ev E s y).cells.length))))) (β i) (by rw [hW']; rfl) (by rw [hW']; rfl) (by rw [hW']; rfl) (by rw [hW']; simp) (fun b hb2 hne => by rw [hW']; exact setRow_other _ _ _ _ (Ne.symm (hne hmine))) rfl (fun _ => .inl ⟨hmine, rfl⟩)
          (by rw [hib]; exact ⟨_, _, _, _, rfl, Nat.le_refl _, fun _ => ⟨rfl, by simp, rfl⟩⟩) (fun hkp hR => by
            refine ⟨hte, .inr ⟨hn, _, hWb, by simpa using hcap, hmax, ?_, ?_⟩⟩
            · simp only [List.size_toArray, List.length_append, List.length_take, List.length_drop, hcur, hyl]
              rw [← hcs]; omega
            · refine RepSeq.set hkp hseq hk (fun m hm => ?_) ⟨p1, p2⟩ p4 (fun m u hm => ?_) (Rep.kept hkp _ _ _ _ (fun _ _ h => h) p3)
              · rw [Nat.zero_add, hcell, hcell0]
                rcases hm with hm | hm
                · rw [List.append_assoc, List.getElem?_append_left (by simp [hcur]; omega), List.getElem?_take, if_pos (by omega)]
                · rw [List.getElem?_append_right (by simp [hcur, hyl]; omega), List.getElem?_drop]
                  congr 1
                  simp [hcur, hyl]
                  omega
              · rw [Nat.zero_add, hcell]
                have h7' : ∀ (m : Nat) (u : Value), cs'[m]? = some u → cur.toList[k * (E.ty e).size + m]? = some u := fun m u hm => by rw [← hcell0]; exact h7 m u hm
                have hcsl : cs'.length = (E.ty e).size := h6
                rw [← hlen] at hm
                by_cases hm1 : m < j
                · rw [List.append_assoc, List.getElem?_append_left (by simp; omega), List.getElem?_take, if_pos (by omega)] at hm
                  rw [List.append_assoc, List.getElem?_append_left (by simp [hcur]; omega), List.getElem?_take, if_pos (by omega)]
                  exact h7' m u hm
                · by_cases hm2 : m < j + (a.eval y).cells.size
                  · rw [List.getElem?_append_left (by simp [hyl]; omega), List.getElem?_append_right (by simp; omega)] at hm
                    rw [List.getElem?_append_left (by simp [hcur, hyl]; omega), List.getElem?_append_right (by simp [hcur]; omega)]
                    rw [← hm]
                    congr 1
                    simp [hcur]
                    omega
                  · rw [List.getElem?_append_right (by simp [hyl]; omega), List.getElem?_drop] at hm
                    rw [List.getElem?_append_right (by simp [hcur, hyl]; omega), List.getElem?_drop]
                    have := h7' _ u hm
                    rw [← this]
                    congr 1
                    simp [hcur, hyl]
                    omega)
        refine ⟨_, _, undef, W', _, he.symm, .inr ⟨?_, rfl⟩, c1, c2, trivial, touch_upd (.inl (by rw [hib]; rfl))⟩
        simp only [execOp, ho, hx, Instr.storeAt, Instr.sureAddr, storeVar, Sem.run_bind, Sem.run_pure, Result.andThen_ok, row.size]
        rw [if_neg (by rw [hysz]; exact fun h => h rfl), hst]
        rfl
    · simp [Tr.eval] at he
  · simp [Tr.eval] at he
end
end Go.AH
