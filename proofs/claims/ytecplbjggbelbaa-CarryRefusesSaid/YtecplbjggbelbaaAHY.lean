/- Maps written; panics. -/
import Derived.Test.YtecplbjggbelbaaAHL
namespace Go.AH
open Go Go.RowKit

section
variable {E : Env} {P : Program} {Z : Nat → Prop} {h view : Nat → Ob} {β : Nat → Loc} {w : World} {s : Nat → V} {a : Act} {fr : Nat} {o : Oper} {r : Rs} {T : TypeId → Ty} {O : Nat → Prop} {R R' : V → Value → Prop}

theorem same_basic {k : Kd} (hp : k.plain = true) {a b : V} {x y : Value} (fa : isForm k a = true) (fb : isForm k b = true) (ha : Rep T w O a R x) (hb : Rep T w O b R' y) (hs : eqV a b = some true) (n : Nat) : Instr.sameBits n y x = true := by
  cases k <;> simp [Kd.plain] at hp
  · cases a <;> simp [isForm] at fa
    cases b <;> simp [isForm] at fb
    rw [show x = _ from ha, show y = _ from hb]
    simp [eqV] at hs
    cases n <;> simp [Instr.sameBits, hs]
  · cases a <;> simp [isForm] at fa
    cases b <;> simp [isForm] at fb
    subst fa fb
    rw [show x = _ from ha, show y = _ from hb]
    simp [eqV] at hs
    cases n <;> simp [Instr.sameBits, hs]
  · cases a <;> simp [isForm] at fa
    cases b <;> simp [isForm] at fb
    obtain ⟨b1, rfl, h8⟩ := ha
    obtain ⟨b2, rfl, h10⟩ := hb
    simp [eqV] at hs
    cases n <;> simp [Instr.sameBits, beq_bytes, h8, h10, hs]
theorem same_cells (n : Nat) : ∀ {ks : List Kd} {as bs : List V} {p q : List Value}, ks.all Kd.plain = true → isFormL ks as = true → isFormL ks bs = true → RepL T w O as R p → RepL T w O bs R' q → eqCells as bs = some true →
    q.length = p.length ∧ (q.zip p).all (fun x => Instr.sameBits n x.1 x.2) = true
  | [], [], [], _, _, _, _, _, h1, h2, _ => by rw [show _ = [] from h1, show _ = [] from h2]; simp
  | [], _ :: _, _, _, _, _, h, _, _, _, _ => by simp [isFormL] at h
  | [], [], _ :: _, _, _, _, _, h, _, _, _ => by simp [isFormL] at h
  | _ :: _, [], _, _, _, _, h, _, _, _, _ => by simp [isFormL] at h
  | _ :: _, _ :: _, [], _, _, _, _, h, _, _, _ => by simp [isFormL] at h
  | k :: ks, a :: as, b :: bs, _, _, hp, fa, fb, ⟨x, p, e1, h1, h2⟩, ⟨y, q, e2, h3, h4⟩, hs => by
    subst e1 e2
    rw [isFormL, Bool.and_eq_true] at fa fb
    rw [List.all_cons, Bool.and_eq_true] at hp
    unfold eqCells at hs
    split at hs
    · rename_i u v hu hv
      simp at hs
      obtain ⟨rfl, rfl⟩ := hs
      obtain ⟨g1, g2⟩ := same_cells n hp.2 fa.2 fb.2 h2 h4 hv
      refine ⟨by simp [g1], ?_⟩
      rw [List.zip_cons_cons, List.all_cons, same_basic hp.1 fa.1 fb.1 h1 h3 hu, g2]
      rfl
    · cases hs
theorem same_bits {kt : TypeId} {ty : Ty} (row : Row P kt ty) (hk : plainKey ty = true) (hok : ty.ok = true) {a b : V} {x y : Value} (fa : isFormT ty a = true) (fb : isFormT ty b = true) (ha : Rep T w O a R x) (hb : Rep T w O b R' y)
    (hs : keySame ty a b = true) (n : Nat) : Instr.sameBits (n + 1) y x = true := by
  have hpl : ty.kinds.all Kd.plain = true := by unfold plainKey at hk; rw [Bool.and_eq_true] at hk; exact hk.1
  rcases key_cases row hk hok with ⟨k, h1, h2, h3⟩ | ⟨fs, h1, h2, h3, h4⟩
  · simp only [isFormT, h2, h3] at fa fb
    rw [h2] at hpl
    simp at hpl
    obtain ⟨q, hq⟩ := eqV_some hpl fa fb
    simp only [keySame, h2, h3, eta_plain hpl fa, eta_plain hpl fb, hq, Option.getD_some] at hs
    subst hs
    exact same_basic hpl fa fb ha hb hq _
  · cases a <;> simp [isFormT, h2] at fa
    cases b <;> simp [isFormT, h2] at fb
    obtain ⟨p, rfl, hp⟩ := ha
    obtain ⟨q, rfl, hq⟩ := hb
    simp only [keySame, h2, etaL_plain hpl fa, etaL_plain hpl fb] at hs
    obtain ⟨res, hres⟩ := eqCells_some hpl fa fb
    rw [hres, Option.getD_some] at hs
    subst hs
    obtain ⟨g1, g2⟩ := same_cells n hpl fa fb hp hq hres
    simp only [Instr.sameBits, Bool.and_eq_true]
    exact ⟨by simpa using g1, g2⟩
theorem RepL.setAt {ks : List V} {l : List Value} (hr : RepL T w O ks R l) {k : V} {x : Value} (hx : Rep T w O k R x) : ∀ (n : Nat), RepL T w O (ks.set n k) R (l.set n x) := by
  intro n
  induction ks generalizing l n with
  | nil => rw [show l = [] from hr]; exact rfl
  | cons u ks ih =>
    obtain ⟨y, r, rfl, h1, h2⟩ := hr
    cases n with
    | zero => exact ⟨x, r, rfl, hx, h2⟩
    | succ n => exact ⟨y, _, rfl, h1, ih h2 n⟩
theorem map_modify {α β : Type} (f : α → β) (g : α → α) (es : Array α) (n : Nat) (y : β) (hn : n < es.size) (hg : ∀ e, f (g e) = y) : (es.modify n g).toList.map f = (es.toList.map f).set n y := by
  apply List.ext_getElem?
  intro j
  simp only [List.getElem?_map, Array.getElem?_toList, Array.getElem?_modify, List.getElem?_set, List.length_map, Array.length_toList]
  by_cases hj : n = j
  · subst hj
    simp [hn, hg]
  · simp [hj]
theorem plain_noRef1 {k : Kd} {v : V} (hp : k.plain = true) (hf : isForm k v = true) : v.refs = [] := by
  cases k <;> simp [Kd.plain] at hp <;> cases v <;> simp [isForm] at hf <;> rfl
theorem plain_noRefL : ∀ {ks : List Kd} {cs : List V}, ks.all Kd.plain = true → isFormL ks cs = true → V.refsL cs = []
  | [], [], _, _ => rfl
  | [], _ :: _, _, h => by simp [isFormL] at h
  | _ :: _, [], _, h => by simp [isFormL] at h
  | k :: ks, c :: cs, hp, h => by
    rw [isFormL, Bool.and_eq_true] at h
    rw [List.all_cons, Bool.and_eq_true] at hp
    rw [V.refsL, plain_noRef1 hp.1 h.1, plain_noRefL hp.2 h.2]
    rfl
theorem plain_noRef {ty : Ty} {v : V} (hp : ty.kinds.all Kd.plain = true) (hf : isFormT ty v = true) : v.noRef = true := by
  obtain ⟨size, agg, bytes, kinds, d, eq⟩ := ty
  unfold V.noRef
  cases agg with
  | true =>
    cases v <;> simp [isFormT] at hf
    rw [V.refs, plain_noRefL hp hf]
    rfl
  | false =>
    match kinds, hp, hf with
    | [k], hp, hf =>
      rw [plain_noRef1 (by simpa using hp) hf]
      rfl
    | [], _, hf => simp [isFormT] at hf
    | _ :: _ :: _, _, hf => simp [isFormT] at hf
theorem op_mapUpdate (c : Ctx E P Z h view β w s a) {t : TypeId} {m k x : Operand} (ho : o.op = .mapUpdate t m k x) (he : (evOp E view s fr o).eval = some r) : Does E P Z h β w a fr o r := by
  simp only [evOp, ho] at he
  have hm := c.val m
  have hk := c.val k
  have hx := c.val x
  split at he
  · rename_i kt et hd
    have hu := (c.ty.row (ok_of hd (by simp))).map hd
    split at he
    · rename_i hc
      simp only [Bool.and_eq_true] at hc
      obtain ⟨⟨⟨⟨⟨hk1, hk2⟩, hk3⟩, hk4⟩, hx1⟩, hx2⟩ := hc
      have rowk := c.ty.row hk1
      have rowe := c.ty.row hk2
      have hpl : (E.ty kt).kinds.all Kd.plain = true := by unfold plainKey at hk4; rw [Bool.and_eq_true] at hk4; exact hk4.1
      split at he
      · rename_i i hi
        rw [hi] at hm
        obtain ⟨_, hm⟩ := hm
        split at he
        · rename_i t' ks vs hq
          split at he
          · rename_i htt
            obtain rfl := nat_of_beq htt
            simp only [Tr.eval, Option.some.injEq] at he
            have hib := c.sees.at_ hq (by simp)
            have hob := c.cx.ob i
            rw [hib] at hob
            obtain ⟨hn, hdk, es, clk, hb, hrk, hrv⟩ := hob
            obtain ⟨hd1, hd2⟩ := hdk kt et hd
            have hlt := (Array.getElem?_eq_some_iff.1 hb).1
            obtain ⟨f, hf1, hf2⟩ := run_findKey (P := P) (es := es.toList) rowk hk4 hk1 hk3 hk hrk hd1
            have hck := run_checkKey (P := P) rowk hk4 hk1 hk3 hk false
            have hmine : Mine h β i := ⟨by rw [hib]; rfl, hn⟩
            have hkn : Rep E.ty w (Own Z h β) (ev E s k) noR (a.eval k) := noRef_noR hk (plain_noRef hpl hk3)
            have hxn : Rep E.ty w (Own Z h β) (etaT (E.ty et) (ev E s x)) noR (a.eval x) := (noRef_noR hx hx2).etaT hx1
            have main : ∀ (es' : Array MapEntry) (clk' : Nat) (ks' vs' : List V), (Instr.mapUpdate t (a.eval m) (a.eval k) (a.eval x)).run P w = .ok () { w with heap := w.heap.setIfInBounds (β i).b (.map es' clk') } →
                dictPut (E.ty kt) (ev E s k) (etaT (E.ty et) (ev E s x)) ks vs = (ks', vs') →
                (∀ k' ∈ ks', isFormT (E.ty kt) k' = true) → (∀ v' ∈ vs', isFormT (E.ty et) v' = true ∧ etaT (E.ty et) v' = v') →
                RepL E.ty w (Own Z h β) ks' noR (es'.toList.map (·.key)) → RepL E.ty w (Own Z h β) vs' noR (es'.toList.map (·.val)) → Does E P Z h β w a fr o r := by
              intro es' clk' ks' vs' hrun hput h1 h2 h3 h4
              rw [hput] at he
              obtain ⟨W', hW'⟩ : ∃ W' : World, W' = { w with heap := w.heap.setIfInBounds (β i).b (.map es' clk') } := ⟨_, rfl⟩
              rw [← hW'] at hrun
              obtain ⟨c1, c2⟩ := c.cx.update (w' := W') i (.dict false t ks' vs') (β i) (by rw [hW']) (by rw [hW']) (by rw [hW']) (by rw [hW']; simp)
                (fun b hb2 hne => by rw [hW']; simp [Array.getElem?_setIfInBounds, hne hmine]) rfl (fun _ => .inl ⟨hmine, rfl⟩) (by rw [hib]; exact ⟨⟨_, _, _, _, rfl⟩, rfl⟩)
                (fun hkp hR => ⟨hn, fun kt' et' hd' => by
                  rw [hd] at hd'
                  simp only [TD.map.injEq] at hd'
                  obtain ⟨rfl, rfl⟩ := hd'
                  exact ⟨h1, h2⟩, es', clk', by rw [hW']; simp [hlt], RepL.kept hkp _ _ _ _ (fun _ _ h => h) h3, RepL.kept hkp _ _ _ _ (fun _ _ h => h) h4⟩)
              exact ⟨_, _, undef, W', _, he.symm, .inr ⟨by simp [execOp, ho, hrun], rfl⟩, c1, c2, trivial, touch_upd (.inl (by rw [hib]; rfl))⟩
            have fx : isFormT (E.ty et) (etaT (E.ty et) (ev E s x)) = true ∧ etaT (E.ty et) (etaT (E.ty et) (ev E s x)) = etaT (E.ty et) (ev E s x) := ⟨form_etaT hx1, etaT_etaT _ _⟩
            rcases find_dict es.toList ks vs 0 hrk hrv hf1 with ⟨_, h6, h7⟩ | ⟨n, e, k', v', _, h6, h8, h9, h10, h11, _, h13, h14⟩
            · refine main (es.push { key := a.eval k, val := a.eval x, born := clk }) (clk + 1) _ _ ?_ (h7 _) ?_ ?_ ?_ ?_
              · simp [Instr.mapUpdate, hm, run_underlying hu, MapKept.run_getObj_map hb, hck, hf2, h6, MapKept.run_setObj_map _ hb, Result.andThen]
              · intro k' hk'
                rcases List.mem_append.1 hk' with h | h
                · exact hd1 _ h
                · rw [List.mem_singleton.1 h]; exact hk3
              · intro v' hv'
                rcases List.mem_append.1 hv' with h | h
                · exact hd2 _ h
                · rw [List.mem_singleton.1 h]; exact fx
              · simpa using hrk.append (us := [ev E s k]) (m := [a.eval k]) ⟨_, _, rfl, hkn, rfl⟩
              · simpa using hrv.append (us := [etaT (E.ty et) (ev E s x)]) (m := [a.eval x]) ⟨_, _, rfl, hxn, rfl⟩
            · have hne : n < es.size := by
                have := (List.getElem?_eq_some_iff.1 h8).1
                simpa using this
              have hsb := same_bits rowk hk4 hk1 hk3 (hd1 _ (List.mem_of_getElem? h9)) hk h13 h11 9999
              rw [Nat.zero_add] at h6
              refine main (es.modify n fun e => { e with key := a.eval k, val := a.eval x }) clk _ _ ?_ (h14 _) ?_ ?_ ?_ ?_
              · have h8' : es[n]? = some e := by simpa using h8
                simp [Instr.mapUpdate, hm, run_underlying hu, MapKept.run_getObj_map hb, hck, hf2, h6, h8', Instr.keyThatStays, hsb, MapKept.run_setObj_map _ hb, Result.andThen]
              · intro k' hk'
                rcases List.mem_or_eq_of_mem_set hk' with h | h
                · exact hd1 _ h
                · rw [h]; exact hk3
              · intro v' hv'
                rcases List.mem_or_eq_of_mem_set hv' with h | h
                · exact hd2 _ h
                · rw [h]; exact fx
              · rw [map_modify _ _ es n (a.eval k) hne (fun _ => rfl)]
                exact hrk.setAt hkn n
              · rw [map_modify _ _ es n (a.eval x) hne (fun _ => rfl)]
                exact hrv.setAt hxn n
          · simp [Tr.eval] at he
        · simp [Tr.eval] at he
      · simp [Tr.eval] at he
    · simp [Tr.eval] at he
  · simp [Tr.eval] at he
end
end Go.AH
