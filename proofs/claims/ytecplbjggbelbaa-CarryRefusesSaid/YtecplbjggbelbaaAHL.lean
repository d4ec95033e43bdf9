/- append; builtins; maps written. -/
import Derived.Test.YtecplbjggbelbaaAHK
namespace Go.AH
open Go Go.RowKit

section
variable {E : Env} {P : Program} {Z : Nat → Prop} {h view : Nat → Ob} {β : Nat → Loc} {w : World} {s : Nat → V} {a : Act} {fr : Nat} {o : Oper} {r : Rs}

/-- A row that lies at l, or the nil slice. -/
def RowAt (w : World) (e : TypeId) (size : Nat) (l : Loc) (n : Nat) (xs : List Value) : Prop :=
  (l.nil = true ∧ n = 0 ∧ l.cap = 0) ∨ (l.nil = false ∧ ∃ cur, w.heap[l.b]? = some (.cells cur e (0, 0)) ∧ n ≤ l.cap ∧ l.cap ≤ maxLen ∧ cur.size = l.cap * size ∧ cur.toList.take (n * size) = xs)
theorem run_app {t e ty : TypeId} {T : Ty} (row : Row P e T) (hu : P.underlying t = some (.slice e)) {l : Loc} {n : Nat} {xs : List Value} (hxs : xs.length = n * T.size) (hl : RowAt w e T.size l n xs)
    {ad : Option Addr} {m c : Nat} {news : List Value} (hl2 : news.length = m * T.size) (hsrc : m = 0 ∨ ∃ b, ad = some b ∧ ∀ j u, news[j]? = some u → w.cell? (b.add j) = some u) (h1 : ∀ u ∈ news, u.oneCell' = true) (hlim : n + m ≤ lim) :
    ∃ l' w', (Builtin.append_ #[t, t] ty #[.slice l.addr n l.cap, .slice ad m c]).run P w = .ok (.slice l'.addr (n + m) l'.cap) w' ∧
      w'.os = w.os ∧ w'.tape = w.tape ∧ w'.output = w.output ∧ w.heap.size ≤ w'.heap.size ∧ (∀ b, b < w.heap.size → (l.nil = false → l.b ≠ b) → w'.heap[b]? = w.heap[b]?) ∧
      (l'.nil = false → (l.nil = false ∧ l'.b = l.b) ∨ (w.heap.size ≤ l'.b ∧ l'.b < w'.heap.size)) ∧
      RowAt w' e T.size l' (n + m) (xs ++ news) ∧ (l'.nil = true → n + m = 0) := by
  obtain ⟨i, z, hi, hs, hby, hz, _, hz1, hz2⟩ := row.info
  have hsz := row.pos
  have hbs := row.bytes
  have hlm : lim = 4294967296 := rfl
  have hzs : z.cells.size = i.size := by
    have h3 := row.rep_zero (T := fun _ => T) (w := w) (O := fun _ => False) w noR
    obtain ⟨z', h4, _, _, h5⟩ := h3
    have : (zeroValue e).run P w = .ok z w := by simp [zeroValue, typeInfo, hi, hz]
    rw [this] at h4
    simp only [Result.ok.injEq, and_true] at h4
    subst h4
    rw [hs]; exact h5
  rw [← hs] at hxs hl hl2 ⊢
  have hbytes : (n + m) * i.bytes ≤ 140737488355328 := by
    rw [hby]
    have : (n + m) * T.bytes ≤ 4294967296 * 32768 := Nat.mul_le_mul (by omega) hbs
    omega
  have h63 : n + m ≤ maxLen := Nat.le_trans hlim maxLen_big
  have hsmall : n + m ≤ 9223372036854775807 := by omega
  have hlen : (xs ++ news).length = (n + m) * i.size := by rw [List.length_append, hxs, hl2, Nat.add_mul]
  have grown : ∀ (old : Nat) (l' : Loc), l' = ⟨w.heap.size, grownCap w (n + m) old e, false⟩ → ∀ w', w' = w.drew.alloc (.cells (xs.toArray ++ news.toArray ++ Builtin.zeroCells z.cells (grownCap w (n + m) old e - (n + m))) e) →
      w'.os = w.os ∧ w'.tape = w.tape ∧ w'.output = w.output ∧ w.heap.size ≤ w'.heap.size ∧ (∀ b, b < w.heap.size → (l.nil = false → l.b ≠ b) → w'.heap[b]? = w.heap[b]?) ∧
      (l'.nil = false → (l.nil = false ∧ l'.b = l.b) ∨ (w.heap.size ≤ l'.b ∧ l'.b < w'.heap.size)) ∧
      RowAt w' e i.size l' (n + m) (xs ++ news) ∧ (l'.nil = true → n + m = 0) := by
    rintro old l' rfl w' rfl
    have hge := grownCap_ge w (n + m) old e
    have hcm : grownCap w (n + m) old e ≤ maxLen := grownCap_le_maxLen w (n + m) old e h63
    refine ⟨rfl, rfl, rfl, by simp, fun b hb _ => heap_alloc_old' w.drew _ hb, fun _ => .inr ⟨Nat.le_refl _, by simp⟩, .inr ⟨rfl, _, heap_alloc_new' w.drew _, hge, hcm, ?_, ?_⟩, fun h => (by cases h)⟩
    · simp only [Array.size_append, List.size_toArray, size_zeroCells, hzs, hxs, hl2, ← Nat.add_mul]
      congr 1
      omega
    · simp only [Array.toList_append, List.append_assoc]
      rw [← List.append_assoc, ← hlen]
      exact List.take_left
  rcases hl with ⟨hn, rfl, hc0⟩ | ⟨hn, cur, hb, hnc, hcm, hcs, htake⟩
  · have hx : xs = [] := List.eq_nil_of_length_eq_zero (by simpa using hxs)
    subst hx
    rw [show l.addr = none from by simp [Loc.addr, hn], hc0]
    by_cases hm : m = 0
    · subst hm
      have hnw : news = [] := List.eq_nil_of_length_eq_zero (by simpa using hl2)
      subst hnw
      refine ⟨l, w, ?_, rfl, rfl, rfl, Nat.le_refl _, fun _ _ _ => rfl, fun h => (by rw [hn] at h; cases h), .inl ⟨hn, rfl, hc0⟩, fun _ => rfl⟩
      rw [show l.addr = none from by simp [Loc.addr, hn], hc0]
      cases ad <;> simp [Builtin.append_, run_underlying hu, sizeOf, typeInfo, hi, Builtin.lenOf, Builtin.firstCells, loadCells, loadCellsFrom]
    · obtain ⟨b, rfl, hcell⟩ := hsrc.resolve_left hm
      have hr := run_append_nil (P := P) w t ty e i z hu hi hz b m c news hl2 hcell (by omega) (by omega) (by simp only [Nat.zero_add] at hbytes; omega)
      have hgr := grown 0 _ rfl _ rfl
      simp only [Nat.zero_add, List.nil_append, Array.empty_append] at hgr ⊢
      exact ⟨⟨w.heap.size, grownCap w m 0 e, false⟩, _, hr, by simpa using hgr⟩
  · rw [show l.addr = some ⟨l.b, 0, none⟩ from by simp [Loc.addr, hn]]
    by_cases hm : m = 0
    · subst hm
      have hnw : news = [] := List.eq_nil_of_length_eq_zero (by simpa using hl2)
      subst hnw
      refine ⟨l, w, ?_, rfl, rfl, rfl, Nat.le_refl _, fun _ _ _ => rfl, fun _ => .inl ⟨hn, rfl⟩, .inr ⟨hn, cur, hb, hnc, hcm, hcs, by simpa using htake⟩, fun h => (by rw [hn] at h; cases h)⟩
      rw [show l.addr = some ⟨l.b, 0, none⟩ from by simp [Loc.addr, hn]]
      cases ad <;> simp [Builtin.append_, run_underlying hu, sizeOf, typeInfo, hi, Builtin.lenOf, Builtin.firstCells, loadCells, loadCellsFrom, hnc, storeCells]
    · obtain ⟨b, rfl, hcell⟩ := hsrc.resolve_left hm
      by_cases hroom : n + m ≤ l.cap
      · have hfit : n * i.size + news.length ≤ cur.size := by rw [hl2, hcs, ← Nat.add_mul]; exact Nat.mul_le_mul_right _ hroom
        have hr := run_append_room (P := P) w t ty e i hu hi l.b n l.cap cur hb b m c news hl2 hcell h1 hroom hfit
        rw [show (some ⟨l.b, 0, none⟩ : Option Addr) = l.addr from by simp [Loc.addr, hn]] at hr ⊢
        refine ⟨l, _, hr, rfl, rfl, rfl, by simp, fun k _ hk => setRow_other w l.b k _ (Ne.symm (hk hn)), fun _ => .inl ⟨hn, rfl⟩, .inr ⟨hn, _, setRow_heap w l.b cur _ e _ hb, hroom, hcm, ?_, ?_⟩, fun h => (by rw [hn] at h; cases h)⟩
        · simp only [List.size_toArray, List.length_append, List.length_take, List.length_drop, Array.length_toList]
          omega
        · rw [htake, ← hlen]
          exact List.take_left
      · have holds : ∀ j u, xs[j]? = some u → w.cell? ((⟨l.b, 0, none⟩ : Addr).add j) = some u := fun j u hj => by
          rw [Addr.add_lit, cell_of_row w _ _ cur e (0, 0) hb]
          rw [← htake, List.getElem?_take] at hj
          split at hj
          · simpa using hj
          · cases hj
        have hr := run_append_grow (P := P) w t ty e i z hu hi hz ⟨l.b, 0, none⟩ n l.cap xs hxs holds b m c news hl2 hcell (by omega) (by omega) (growslice_fits (by omega) hbytes)
        exact ⟨⟨w.heap.size, grownCap w (n + m) l.cap e, false⟩, _, hr, grown l.cap _ rfl _ rfl⟩
theorem form_storableL : ∀ (ks : List Kd) (cs : List V), isFormL ks cs = true → cs.all V.storable = true
  | [], [], _ => rfl
  | [], _ :: _, h => by simp [isFormL] at h
  | _ :: _, [], h => by simp [isFormL] at h
  | k :: ks, c :: cs, h => by
    rw [isFormL, Bool.and_eq_true] at h
    rw [List.all_cons, Bool.and_eq_true]
    exact ⟨form_storable h.1, form_storableL ks cs h.2⟩
theorem Elems.one {T : TypeId → Ty} {O : Nat → Prop} {t : TypeId} (row : Row P t (T t)) {vs : List V} {css : List (List Value)} (e : Elems T w O t vs css) : ∀ u ∈ css.flatten, u.oneCell' = true := by
  intro u hu
  obtain ⟨cs, hcs, hu⟩ := List.mem_flatten.1 hu
  obtain ⟨n, hn, rfl⟩ := List.getElem_of_mem hcs
  have hn2 : n < vs.length := by rw [← e.len]; exact hn
  obtain ⟨⟨f1, f2⟩, f3⟩ := e.rep n vs[n] css[n] (List.getElem?_eq_getElem hn2) (List.getElem?_eq_getElem hn)
  have h1 := mkVal_rep row f1 (e.size _ hcs) f3
  exact RepL.oneAll (R := noR) (fun _ _ h => h.elim) h1 (form_storableL _ _ (form_cells row f1 f2).1) u hu
theorem append_core (c : Ctx E P Z h view β w s a) {t e ty : TypeId} (hok : (E.ty e).ok = true) (hu : P.underlying t = some (.slice e)) {i g k : Nat} {vs new : List V} (hi : h i = .row false g e vs) (hk : k ≤ vs.length)
    {ad : Option Addr} {c' : Nat} (hsrc : new = [] ∨ ∃ b o, ad = some ⟨b, o, none⟩ ∧ RepSeq E.ty w (Own Z h β) new e b o) (hlim : k + new.length ≤ lim) :
    ∃ l' w', (Builtin.append_ #[t, t] ty #[.slice (β i).addr k (β i).cap, .slice ad new.length c']).run P w = .ok (.slice l'.addr (k + new.length) l'.cap) w' ∧
      Cx E.ty E.glob Z (upd h i (.row false (g + 1) e (vs.take k ++ new))) (upd β i l') w' ∧ Stp h β w (upd h i (.row false (g + 1) e (vs.take k ++ new))) (upd β i l') w' ∧ k + new.length ≤ l'.cap ∧ (k + new.length ≠ 0 → l'.nil = false) := by
  have row := c.ty.row hok
  have hob := c.cx.ob i
  rw [hi] at hob
  have hold : ∃ css, Elems E.ty w (Own Z h β) e (vs.take k) css ∧ RowAt w e (E.ty e).size (β i) k css.flatten := by
    obtain ⟨_, ⟨h1, rfl, h3⟩ | ⟨hn, cur, hb, hcap, hmax, hcs, hseq⟩⟩ := hob
    · simp at hk
      subst hk
      exact ⟨[], ⟨rfl, by simp, by simp⟩, .inl ⟨h1, rfl, h3⟩⟩
    · have h0 := RepSeq.part vs 0 k hseq
      simp only [List.drop_zero, Nat.zero_mul, Nat.add_zero] at h0
      obtain ⟨css, e1, hl⟩ := h0.elems
      refine ⟨css, e1, .inr ⟨hn, cur, hb, by omega, hmax, hcs, ?_⟩⟩
      have hfl := flatten_len css _ e1.size
      rw [e1.len, List.length_take, Nat.min_eq_left hk] at hfl
      have hks : k * (E.ty e).size ≤ cur.size := by rw [hcs]; exact Nat.mul_le_mul_right _ (by omega)
      apply List.ext_getElem?
      intro j
      by_cases hj : j < k * (E.ty e).size
      · have hj2 : css.flatten[j]? = some (css.flatten[j]'(by omega)) := List.getElem?_eq_getElem (by omega)
        have := hl j _ hj2
        rw [Nat.zero_add, cell_of_row w _ _ cur e (0, 0) hb] at this
        rw [List.getElem?_take, if_pos hj, hj2, ← this]
        simp
      · rw [List.getElem?_eq_none (by simp; omega), List.getElem?_eq_none (by omega)]
  have hnew : ∃ dss, Elems E.ty w (Own Z h β) e new dss ∧ (new.length = 0 ∨ ∃ b, ad = some b ∧ ∀ j u, dss.flatten[j]? = some u → w.cell? (b.add j) = some u) := by
    rcases hsrc with rfl | ⟨b, o', rfl, hseq⟩
    · exact ⟨[], ⟨rfl, by simp, by simp⟩, .inl rfl⟩
    · obtain ⟨dss, e2, hl⟩ := hseq.elems
      exact ⟨dss, e2, .inr ⟨_, rfl, fun j u hj => by rw [Addr.add_lit]; exact hl j u hj⟩⟩
  obtain ⟨css, e1, hat⟩ := hold
  obtain ⟨dss, e2, hsrc2⟩ := hnew
  have hx1 := flatten_len css _ e1.size
  rw [e1.len, List.length_take, Nat.min_eq_left hk] at hx1
  have hx2 := flatten_len dss _ e2.size
  rw [e2.len] at hx2
  obtain ⟨l', w', hrun, g1, g2, g3, g4, g5, g6, g7, g8⟩ := run_app (ty := ty) (c := c') row hu hx1 hat hx2 hsrc2 (e2.one row) hlim
  have hmine : Mine h β i ↔ (β i).nil = false := by simp [Mine, hi, Ob.rw]
  obtain ⟨c1, c2⟩ := c.cx.update (w' := w') i (.row false (g + 1) e (vs.take k ++ new)) l' g1 g2 g3 g4 (fun b hb hne => g5 b hb (fun hn => hne (hmine.2 hn))) rfl
    (fun hn => by
      rcases g6 hn with ⟨h1, h2⟩ | h1
      · exact .inl ⟨hmine.2 h1, h2⟩
      · exact .inr h1)
    (by rw [hi]; exact ⟨_, _, _, _, rfl, by omega, fun h => (by omega)⟩)
    (fun hkp hR => by
      refine ⟨hok, ?_⟩
      rcases g7 with ⟨h1, h2, h3⟩ | ⟨h1, cur', h2, h3, h4, h5, h6⟩
      · left
        refine ⟨h1, ?_, h3⟩
        have : k = 0 ∧ new = [] := ⟨by omega, List.eq_nil_of_length_eq_zero (by omega)⟩
        rw [this.1, this.2]
        rfl
      · right
        refine ⟨h1, cur', h2, by simp; omega, h4, h5, ?_⟩
        refine ((e1.append e2).kept hkp).seq ?_
        rw [List.flatten_append, ← h6]
        exact (Lies.of_block h2).take _)
  refine ⟨l', w', hrun, c1, c2, ?_, fun hne => ?_⟩
  · rcases g7 with ⟨_, h2, h3⟩ | ⟨_, _, _, h3, _⟩ <;> omega
  · cases hq : l'.nil with
    | false => rfl
    | true => exact absurd (g8 hq) hne
theorem args2 {xs : Array Operand} {v1 v2 : V} (h : xs.toList.map (ev E s) = [v1, v2]) : ∃ x y, xs = #[x, y] ∧ ev E s x = v1 ∧ ev E s y = v2 := by
  obtain ⟨l⟩ := xs
  match l, h with
  | [x, y], h => simp at h; exact ⟨x, y, rfl, h.1, h.2⟩
  | [], h => simp at h
  | [_], h => simp at h
  | _ :: _ :: _ :: _, h => simp at h
theorem args1 {xs : Array Operand} {v1 : V} (h : xs.toList.map (ev E s) = [v1]) : ∃ x, xs = #[x] ∧ ev E s x = v1 := by
  obtain ⟨l⟩ := xs
  match l, h with
  | [x], h => simp at h; exact ⟨x, rfl, h⟩
  | [], h => simp at h
  | _ :: _ :: _, h => simp at h
theorem lenV_rep (c : Ctx E P Z h view β w s a) {v : V} {x : Value} {n : Nat} (hr : Rep E.ty w (Own Z h β) v (RefRep E.ty h β) x) (hl : lenV v = some n) : ∃ ad cp, x = .slice ad n cp := by
  unfold lenV at hl
  split at hl
  · obtain ⟨ad, cp, rfl, _⟩ := hr
    simp at hl
    subst hl
    exact ⟨_, _, rfl⟩
  · obtain ⟨_, _, _, _, _, _, ⟨ad, cp, rfl, _⟩, _⟩ := hr
    simp at hl
    subst hl
    exact ⟨_, _, rfl⟩
  · obtain ⟨_, _, _, _, _, _, ⟨ad, cp, rfl, _⟩, _⟩ := hr
    simp at hl
    subst hl
    exact ⟨_, _, rfl⟩
  · cases hl
theorem op_builtin (c : Ctx E P Z h view β w s a) {cl : Call} {b : Builtin} (ho : o.op = .call cl) (hb : cl.callee = .builtin b) (he : (evOp E view s fr o).eval = some r) : Does E P Z h β w a fr o r := by
  obtain ⟨callee, args, argTypes⟩ := cl
  simp only at hb
  subst hb
  simp only [evOp, ho] at he
  unfold evBuiltin at he
  split at he
  · rename_i v hargs
    obtain ⟨x, rfl, hv⟩ := args1 hargs
    have hx := c.val x
    rw [hv] at hx
    split at he
    · rename_i t ht
      obtain rfl : argTypes = #[t] := by
        obtain ⟨l⟩ := argTypes
        simp at ht
        rw [ht]
      split at he
      · rename_i d v' x hd
        simp only [Tr.eval, Option.some.injEq] at he
        obtain ⟨bs, hxe, h2⟩ := hx
        obtain ⟨hu, _⟩ := (c.ty.row (ok_of hd (by simp))).str hd
        subst h2
        refine Gives.does c ⟨_, .int .i64 bs.data.toList.length, he.symm, ?_, rfl⟩
        simp [execOp, ho, resolve, invoke, builtin, hxe, Builtin.len_, run_underlying hu, goInt]
      · rename_i v' e hd
        split at he
        · rename_i n hn
          simp only [Tr.eval, Option.some.injEq] at he
          obtain ⟨ad, cp, hxe⟩ := lenV_rep c hx hn
          obtain ⟨hu, _⟩ := (c.ty.row (ok_of hd (by simp))).slice hd
          refine Gives.does c ⟨_, .int .i64 n, he.symm, ?_, rfl⟩
          simp [execOp, ho, resolve, invoke, builtin, hxe, Builtin.len_, run_underlying hu, goInt]
        · simp [Tr.eval] at he
      · simp [Tr.eval] at he
    · simp [Tr.eval] at he
  · rename_i v1 v2 hargs
    obtain ⟨x, y, rfl, hv1, hv2⟩ := args2 hargs
    have hx := c.val x
    have hy := c.val y
    rw [hv1] at hx
    rw [hv2] at hy
    split at he
    · rename_i t t' ht
      obtain rfl : argTypes = #[t, t'] := by
        obtain ⟨l⟩ := argTypes
        simp at ht
        rw [ht]
      split at he
      · simp [Tr.eval] at he
      · rename_i htt
        obtain rfl := nat_of_beq htt
        split at he
        · rename_i e hd
          obtain ⟨hu, _⟩ := (c.ty.row (ok_of hd (by simp))).slice hd
          split at he
          · simp [Tr.eval] at he
          · rename_i hok
            split at he
            · rename_i e' new hels
              split at he
              · rename_i hee
                obtain ⟨ad, cap, hye, _, hsrc⟩ := els_sound c.cx c.sees hy hels
                have hsrc2 : new = [] ∨ ∃ b o, ad = some ⟨b, o, none⟩ ∧ RepSeq E.ty w (Own Z h β) new e b o := by
                  rcases hsrc with h1 | ⟨b, o, h1, _, h3⟩
                  · exact .inl h1
                  · cases new with
                    | nil => exact .inl rfl
                    | cons u new =>
                      simp at hee
                      obtain rfl := hee
                      exact .inr ⟨b, o, h1, h3⟩
                unfold appendV at he
                split at he
                · rename_i tt i g n
                  split at he
                  · rename_i g' t' vs hq
                    split at he
                    · rename_i hg
                      rw [Bool.and_eq_true] at hg
                      obtain ⟨hg1, hg2⟩ := hg
                      obtain rfl := nat_of_beq hg1
                      obtain rfl := nat_of_beq hg2
                      obtain ⟨h3, h4⟩ := eval_test he
                      simp only [decide_eq_true_eq] at h3
                      simp only [Tr.eval, Option.some.injEq] at h4
                      have hib := c.sees.at_ hq (by simp)
                      obtain ⟨ro2, g2, t2, vs2, hi2, _, _, hxx⟩ := hx
                      rw [hib] at hi2
                      simp only [Ob.row.injEq] at hi2
                      obtain ⟨rfl, rfl, rfl, rfl⟩ := hi2
                      obtain ⟨rfl, rfl, hxe⟩ := hxx rfl
                      obtain ⟨l', w', hrun, c1, c2, hcap, hnn⟩ := append_core (ty := o.type) (c' := cap) c hok hu hib (Nat.le_refl _) hsrc2 h3
                      rw [List.take_of_length_le (Nat.le_refl _)] at c1 c2
                      refine ⟨_, _, .slice l'.addr (vs.length + new.length) l'.cap, w', _, h4.symm, .inl ?_, c1, c2, ?_, touch_upd (.inl (by rw [hib]; rfl))⟩
                      · simp only [execOp, ho, resolve, invoke, builtin, Sem.run_bind, Sem.run_pure, Result.andThen_ok, List.map_toArray, List.map_cons, List.map_nil, hxe, hye, hrun]
                      · refine ⟨false, g + 1, _, _, by rw [updL, updL, upd_same], Nat.le_refl _, ⟨_, _, by rw [List.length_append], by rw [List.length_append]; exact hcap, fun hne => ?_⟩, fun _ => ⟨rfl, rfl, by rw [upd_same, List.length_append]⟩⟩
                        rw [List.length_append] at hne
                        exact ⟨l'.b, 0, by simp [Loc.addr, hnn hne]⟩
                    · simp [Tr.eval] at he
                  · simp [Tr.eval] at he
                · rename_i tt i g o' m
                  split at he
                  · rename_i g' t' vs hq
                    split at he
                    · rename_i hg
                      simp only [Bool.and_eq_true] at hg
                      obtain ⟨⟨hg1, hg2⟩, hg3⟩ := hg
                      obtain rfl := nat_of_beq hg1
                      obtain rfl := nat_of_beq hg2
                      obtain rfl := nat_of_beq hg3
                      obtain ⟨h3, h4⟩ := eval_test he
                      simp only [Bool.and_eq_true, decide_eq_true_eq] at h3
                      obtain ⟨h3, h5⟩ := h3
                      simp only [Tr.eval, Option.some.injEq] at h4
                      have hib := c.sees.at_ hq (by simp)
                      obtain ⟨ro2, g2, t2, vs2, hi2, _, _, hxx⟩ := hx
                      rw [hib] at hi2
                      simp only [Ob.row.injEq] at hi2
                      obtain ⟨rfl, rfl, rfl, rfl⟩ := hi2
                      obtain ⟨rfl, hom, ad2, hxe, hx2⟩ := hxx rfl
                      have hm : m ≤ vs.length := by omega
                      have hob := c.cx.ob i
                      rw [hib] at hob
                      have hloc : (β i).addr = ad2 := by
                        obtain ⟨_, ⟨_, h7, _⟩ | ⟨hn, cur, _, h7, _⟩⟩ := hob
                        · rw [h7] at h5; simp at h5
                        · rw [hx2 (by omega)]
                          simp [Loc.addr, hn]
                      obtain ⟨l', w', hrun, c1, c2, hcap, hnn⟩ := append_core (ty := o.type) (c' := cap) c hok hu hib hm hsrc2 h3
                      have hlen : (List.take m (List.drop 0 vs) ++ new).length = m + new.length := by simp; omega
                      refine ⟨_, _, .slice l'.addr (m + new.length) l'.cap, w', _, h4.symm, .inl ?_, c1, c2, ?_, touch_upd (.inl (by rw [hib]; rfl))⟩
                      · rw [hloc] at hrun
                        rw [Nat.sub_zero] at hxe
                        simp only [execOp, ho, resolve, invoke, builtin, Sem.run_bind, Sem.run_pure, Result.andThen_ok, List.map_toArray, List.map_cons, List.map_nil, hxe, hye, hrun]
                      · refine ⟨false, g + 1, _, _, by rw [updL, updL, upd_same], Nat.le_refl _, ⟨_, _, by rw [hlen], by rw [hlen]; exact hcap, fun hne => ?_⟩, fun _ => ⟨rfl, rfl, by rw [upd_same, hlen]⟩⟩
                        rw [hlen] at hne
                        exact ⟨l'.b, 0, by simp [Loc.addr, hnn hne]⟩
                    · simp [Tr.eval] at he
                  · simp [Tr.eval] at he
                · simp [Tr.eval] at he
              · simp [Tr.eval] at he
            · simp [Tr.eval] at he
        · simp [Tr.eval] at he
    · simp [Tr.eval] at he
  · rename_i k p k' q hargs
    obtain ⟨x, y, rfl, hv1, hv2⟩ := args2 hargs
    have hx := c.val x
    have hy := c.val y
    rw [hv1] at hx
    rw [hv2] at hy
    have hxe : a.eval x = .int k p := hx
    have hye : a.eval y = .int k' q := hy
    split at he
    · simp only [Tr.eval, Option.some.injEq] at he
      refine Gives.does c ⟨_, .int k (if q > p then q else p), he.symm, ?_, ?_⟩
      · simp [execOp, ho, resolve, invoke, builtin, hxe, hye, Builtin.max_, Builtin.max2]
      · by_cases hq : q > p
        · simp [hq, Rep]
        · simp [hq, Rep]
    · simp [Tr.eval] at he
  · rename_i k p k' q hargs
    obtain ⟨x, y, rfl, hv1, hv2⟩ := args2 hargs
    have hx := c.val x
    have hy := c.val y
    rw [hv1] at hx
    rw [hv2] at hy
    have hxe : a.eval x = .int k p := hx
    have hye : a.eval y = .int k' q := hy
    split at he
    · simp only [Tr.eval, Option.some.injEq] at he
      refine Gives.does c ⟨_, .int k (if q < p then q else p), he.symm, ?_, ?_⟩
      · simp [execOp, ho, resolve, invoke, builtin, hxe, hye, Builtin.min_, Builtin.min2]
      · by_cases hq : q < p
        · simp [hq, Rep]
        · simp [hq, Rep]
    · simp [Tr.eval] at he
  · simp [Tr.eval] at he
end
end Go.AH
