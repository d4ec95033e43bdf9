/- What a call gives back: the callee's heap laid into the caller's. -/
import Derived.Test.YtecplbjggbelbaaAHE
namespace Go.AH
open Go Go.RowKit

theorem updL_append {α : Type} : ∀ (a b : List (Nat × α)) (f : Nat → α), updL f (a ++ b) = updL (updL f a) b
  | [], _, _ => rfl
  | (i, x) :: a, b, f => updL_append a b (upd f i x)
theorem updL_not {α : Type} : ∀ (l : List (Nat × α)) (f : Nat → α) (i : Nat), (∀ p ∈ l, p.1 ≠ i) → updL f l i = f i
  | [], _, _, _ => rfl
  | (j, x) :: l, f, i, h => by
    rw [updL, updL_not l _ i (fun p hp => h p (by simp [hp])), upd_other]
    exact Ne.symm (h (j, x) (by simp))
theorem updL_get {α : Type} : ∀ (l : List (Nat × α)) (f : Nat → α) (n i : Nat) (x : α), l[n]? = some (i, x) → (∀ m y, l[m]? = some (i, y) → m = n) → updL f l i = x
  | [], _, _, _, _, h, _ => by simp at h
  | (j, y) :: l, f, 0, i, x, h, hu => by
    simp at h
    obtain ⟨rfl, rfl⟩ := h
    rw [updL, updL_not, upd_same]
    intro p hp he
    obtain ⟨m, hm⟩ := List.getElem?_of_mem hp
    obtain ⟨p1, p2⟩ := p
    simp only at he
    subst he
    have := hu (m + 1) p2 (by simpa using hm)
    omega
  | (j, y) :: l, f, n + 1, i, x, h, hu => by
    rw [updL]
    exact updL_get l _ n i x (by simpa using h) (fun m z hm => by have := hu (m + 1) z (by simpa using hm); omega)
theorem updL_map {α : Type} (F : Nat → α) : ∀ (l : List Nat) (f : Nat → α) (i : Nat), updL f (l.map fun i => (i, F i)) i = if i ∈ l then F i else f i
  | [], _, _ => by simp [updL]
  | j :: l, f, i => by
    rw [List.map_cons, updL, updL_map F l]
    by_cases hi : i ∈ l
    · simp [hi]
    · by_cases hj : i = j
      · subst hj; simp [hi, upd_same]
      · simp [hi, hj, upd_other]

section
variable {T : TypeId → Ty} {w w' : World} {O O' : Nat → Prop} {R R' : V → Value → Prop}
theorem plain_flat1 {k : Kd} {v : V} (hp : k.plain = true) (hf : isForm k v = true) : v.flat = true := by
  cases k <;> simp [Kd.plain] at hp <;> cases v <;> simp [isForm] at hf <;> rfl
theorem plain_flatL : ∀ {ks : List Kd} {cs : List V}, ks.all Kd.plain = true → isFormL ks cs = true → V.flatL cs = true
  | [], [], _, _ => rfl
  | [], _ :: _, _, h => by simp [isFormL] at h
  | _ :: _, [], _, h => by simp [isFormL] at h
  | k :: ks, c :: cs, hp, h => by
    rw [isFormL, Bool.and_eq_true] at h
    rw [List.all_cons, Bool.and_eq_true] at hp
    rw [V.flatL, plain_flat1 hp.1 h.1, plain_flatL hp.2 h.2]
    rfl
theorem plain_flat {ty : Ty} {v : V} (hp : ty.kinds.all Kd.plain = true) (hf : isFormT ty v = true) : v.flat = true := by
  obtain ⟨size, agg, bytes, kinds, d, eq⟩ := ty
  cases agg with
  | true =>
    cases v <;> simp [isFormT] at hf
    rw [V.flat, plain_flatL hp hf]
  | false =>
    match kinds, hp, hf with
    | [k], hp, hf => exact plain_flat1 (by simpa using hp) hf
    | [], _, hf => simp [isFormT] at hf
    | _ :: _ :: _, _, hf => simp [isFormT] at hf
theorem RepSeq.flat' {t : TypeId} {b : Nat} (hp : (T t).kinds.all Kd.plain = true) : ∀ {vs : List V} {o : Nat}, RepSeq T w O vs t b o → RepSeq T w O' vs t b o
  | [], _, _ => trivial
  | v :: vs, o, ⟨h1, ⟨cs, h2, h3, h4⟩, h5⟩ => ⟨h1, ⟨cs, h2, h3, Rep.flat v _ _ (plain_flat hp h1.1) h4⟩, RepSeq.flat' hp h5⟩
theorem RepL.flat_all : ∀ {vs : List V} {l : List Value}, (∀ v ∈ vs, v.flat = true) → RepL T w O vs R l → RepL T w O' vs R l
  | [], _, _, h => h
  | v :: vs, _, hf, ⟨x, r, e, h1, h2⟩ => ⟨x, r, e, Rep.flat v _ _ (hf v (by simp)) h1, RepL.flat_all (fun u hu => hf u (by simp [hu])) h2⟩
theorem ObRep.flat {o : Ob} {l : Loc} (hf : o.flatIn T = true) (hr : ObRep T w O R l o) : ObRep T w O' R l o := by
  cases o with
  | dead => trivial
  | box ro cs =>
    obtain ⟨hn, arr, e, h1, h2⟩ := hr
    exact ⟨hn, arr, e, h1, RepL.flat cs _ _ hf h2⟩
  | row ro g t vs =>
    obtain ⟨ht, h | ⟨hn, cur, h1, h2, h3, h4, h5⟩⟩ := hr
    · exact ⟨ht, .inl h⟩
    · exact ⟨ht, .inr ⟨hn, cur, h1, h2, h3, h4, h5.flat' hf⟩⟩
  | dict ro t ks vs =>
    obtain ⟨hn, hd, es, clk, h1, h2, h3⟩ := hr
    simp only [Ob.flatIn] at hf
    split at hf
    · rename_i k e hde
      rw [Bool.and_eq_true] at hf
      obtain ⟨d1, d2⟩ := hd k e hde
      exact ⟨hn, hd, es, clk, h1, h2.flat_all (fun v hv => plain_flat hf.1 (d1 v hv)), h3.flat_all (fun v hv => plain_flat hf.2 (d2 v hv).1)⟩
    · cases hf
theorem ObRep.ren {o : Ob} {l : Loc} {φ : V → V} (g : Nat → Nat) (hR : ∀ r y, R r y → Rep T w O (φ r) R' y) (hr : ObRep T w O R l o) : ObRep T w O R' l (o.ren φ g) := by
  cases o with
  | dead => trivial
  | box ro cs =>
    obtain ⟨hn, arr, e, h1, h2⟩ := hr
    exact ⟨hn, arr, e, h1, RepL.mapRef cs _ _ _ hR h2⟩
  | row ro g t vs => exact hr
  | dict ro t ks vs => exact hr
theorem ObRep.setRo {o : Ob} {l : Loc} (hr : ObRep T w O R l o) : ObRep T w O R l o.setRo := by
  cases o <;> exact hr
end

/-- What is asked of a function's model. -/
structure Good (T : TypeId → Ty) (G : Nat → V) (Z : Nat → Prop) (m : Nat) (h : Nat → Ob) (β : Nat → Loc) (w : World) (v : V) (objs : List Ob) (β' : Nat → Loc) (w' : World) (x : Value) : Prop where
  cx : Cx T G Z (hOf objs) β' w'
  wk : Wk m h β w (hOf objs) β' w'
  rep : Rep T w' (Own Z (hOf objs) β') v (RefRep T (hOf objs) β') x

section
variable {T : TypeId → Ty} {G : Nat → V} {Z : Nat → Prop} {h view : Nat → Ob} {β : Nat → Loc} {w : World} {ids bor : List Nat} {fr : Nat}

theorem backId_lo {k i : Nat} (hk : ids[k]? = some i) : backId ids fr k = i := by rw [backId, hk]
theorem backId_hi {k : Nat} (hk : ids.length ≤ k) : backId ids fr k = fr + (k - ids.length) := by rw [backId, List.getElem?_eq_none hk]
theorem backOb_get : ∀ (objs : List Ob) (k n : Nat) (o : Ob), objs[n]? = some o → (backOb view ids fr k objs)[n]? = some (backId ids fr (k + n), o.ren (renRef (fun i => some (backId ids fr i)) (fun i g => some (g + backGen view ids i))) (· + backGen view ids (k + n)))
  | [], _, _, _, h => by simp at h
  | o :: r, k, 0, _, h => by simp at h; subst h; rfl
  | o :: r, k, n + 1, o', h => by
    rw [backOb, List.getElem?_cons_succ, backOb_get r (k + 1) n o' (by simpa using h)]
    rw [show k + 1 + n = k + (n + 1) from by omega]
theorem backOb_len : ∀ (objs : List Ob) (k : Nat), (backOb view ids fr k objs).length = objs.length
  | [], _ => rfl
  | o :: r, k => by rw [backOb, List.length_cons, backOb_len r, List.length_cons]

/-- Where the callee's objects lie now. -/
def backL (β β' : Nat → Loc) (ids : List Nat) (fr : Nat) (i : Nat) : Loc := match pos ids i with
  | some k => β' k
  | none => if fr ≤ i ∧ i < fr + 64 then β' (ids.length + (i - fr)) else β i
/-- What has been lent stays as it is, seen from what comes back. -/
def lentOk (T : TypeId → Ty) (v : V) (objs : List Ob) : Bool := v.flat && objs.all (fun o => o.flatIn T && (o.rw || !o.alive))

/-- What the callee is not to touch. -/
def lent (Z : Nat → Prop) (h : Nat → Ob) (β : Nat → Loc) (ids bor : List Nat) (b : Nat) : Prop := Z b ∨ ∃ i, Mine h β i ∧ i ∉ ids ∧ i ∉ bor ∧ (β i).b = b

theorem call_back (cx : Cx T G Z h β w) (hv : Sees view h) (hnd : ids.Nodup) (hap : apart view ids bor = true) (hfr : ∀ i, fr ≤ i → i < fr + 64 → h i = .dead)
    {v : V} {objs : List Ob} {β' : Nat → Loc} {w' : World} {x : Value} (hlen : ids.length ≤ objs.length) (hlen2 : objs.length ≤ ids.length + 64)
    (gd : Good T G (lent Z h β ids bor) ids.length (reH h gen0 ids) (reL β ids) w v objs β' w' x) :
    Cx T G Z (updL h (backU T view ids bor fr v objs)) (backL β β' ids fr) w' ∧ Stp h β w (updL h (backU T view ids bor fr v objs)) (backL β β' ids fr) w' ∧
    Rep T w' (Own Z (updL h (backU T view ids bor fr v objs)) (backL β β' ids fr)) (backV view ids fr v) (RefRep T (updL h (backU T view ids bor fr v objs)) (backL β β' ids fr)) x ∧
    Touch h (updL h (backU T view ids bor fr v objs)) fr := by
  obtain ⟨H, hH⟩ : ∃ H, H = updL h (backU T view ids bor fr v objs) := ⟨_, rfl⟩
  rw [← hH]
  unfold apart at hap
  rw [Bool.and_eq_true, List.all_eq_true, List.all_eq_true] at hap
  obtain ⟨hal, hbo⟩ := hap
  have hids : ∀ i ∈ ids, view i = h i ∧ (h i).alive = true := fun i hi => by
    have h1 := hal i hi
    rcases hv i with h2 | h2
    · rw [h2] at h1; cases h1
    · exact ⟨h2, by rw [← h2]; exact h1⟩
  have hbor : ∀ i ∈ bor, view i = h i ∧ (h i).alive = true ∧ i ∉ ids := fun i hi => by
    have h1 := hbo i hi
    simp only [Bool.and_eq_true, Bool.not_eq_true'] at h1
    rcases hv i with h2 | h2
    · rw [h2] at h1; cases h1.1.1
    · exact ⟨h2, by rw [← h2]; exact h1.1.1, by simpa using h1.1.2⟩
  have hout : ∀ i, (h i).alive = true → ¬ (fr ≤ i ∧ i < fr + 64) := fun i ha hc => by rw [hfr i hc.1 hc.2] at ha; cases ha
  -- the numbers
  have hinj : ∀ a b, a < objs.length → b < objs.length → backId ids fr a = backId ids fr b → a = b := by
    intro a b ha hb he
    rcases Nat.lt_or_ge a ids.length with h1 | h1 <;> rcases Nat.lt_or_ge b ids.length with h2 | h2
    · rw [backId_lo (List.getElem?_eq_getElem h1), backId_lo (List.getElem?_eq_getElem h2)] at he
      exact (List.getElem_inj hnd).1 he
    · rw [backId_lo (List.getElem?_eq_getElem h1), backId_hi h2] at he
      exact absurd ⟨by omega, by omega⟩ (hout ids[a] (hids _ (List.getElem_mem h1)).2)
    · rw [backId_hi h1, backId_lo (List.getElem?_eq_getElem h2)] at he
      exact absurd ⟨by omega, by omega⟩ (hout ids[b] (hids _ (List.getElem_mem h2)).2)
    · rw [backId_hi h1, backId_hi h2] at he
      omega
  -- what is known of the new heap
  have hA : ∀ k o, objs[k]? = some o → H (backId ids fr k) = o.ren (renRef (fun i => some (backId ids fr i)) (fun i g => some (g + backGen view ids i))) (· + backGen view ids k) := by
    intro k o hk
    rw [hH, backU, updL_append]
    have h1 := backOb_get (view := view) (ids := ids) (fr := fr) objs 0 k o hk
    rw [Nat.zero_add] at h1
    refine updL_get _ _ k _ _ h1 (fun m y hm => ?_)
    have hml : m < objs.length := by rw [← backOb_len (view := view) (ids := ids) (fr := fr) objs 0]; exact (List.getElem?_eq_some_iff.1 hm).1
    have h2 := backOb_get (view := view) (ids := ids) (fr := fr) objs 0 m _ (List.getElem?_eq_getElem hml)
    rw [hm, Nat.zero_add] at h2
    simp only [Option.some.injEq, Prod.mk.injEq] at h2
    exact hinj m k hml (List.getElem?_eq_some_iff.1 hk).1 h2.1.symm
  have hB : ∀ i, (∀ k, k < objs.length → backId ids fr k ≠ i) → H i = h i ∧ (lentOk T v objs = true ∨ i ∉ bor) ∨ i ∈ bor ∧ lentOk T v objs = false ∧ H i = (h i).setRo := by
    intro i hi
    have h1 : ∀ f : Nat → Ob, updL f (backOb view ids fr 0 objs) i = f i := fun f => by
      refine updL_not _ _ _ (fun p hp he => ?_)
      obtain ⟨m, hm⟩ := List.getElem?_of_mem hp
      have hml : m < objs.length := by rw [← backOb_len (view := view) (ids := ids) (fr := fr) objs 0]; exact (List.getElem?_eq_some_iff.1 hm).1
      have h2 := backOb_get (view := view) (ids := ids) (fr := fr) objs 0 m _ (List.getElem?_eq_getElem hml)
      rw [hm, Nat.zero_add] at h2
      simp only [Option.some.injEq] at h2
      rw [h2] at he
      exact hi m hml he
    rw [hH, backU, updL_append, h1]
    rw [show freeze T view bor v objs = (match lentOk T v objs with | true => [] | false => bor.map fun i => (i, (view i).setRo)) from rfl]
    cases hl : lentOk T v objs with
    | true => exact .inl ⟨rfl, .inl rfl⟩
    | false =>
      simp only
      rw [updL_map (fun i => (view i).setRo)]
      by_cases hib : i ∈ bor
      · rw [if_pos hib, (hbor i hib).1]
        exact .inr ⟨hib, trivial, rfl⟩
      · rw [if_neg hib]
        exact .inl ⟨rfl, .inr hib⟩
  have hLA : ∀ k, k < objs.length → backL β β' ids fr (backId ids fr k) = β' k := by
    intro k hk
    unfold backL
    rcases Nat.lt_or_ge k ids.length with h1 | h1
    · have h2 := List.getElem?_eq_getElem h1
      rw [backId_lo h2]
      obtain ⟨k', hk'⟩ := pos_mem (List.getElem_mem h1)
      rw [hk']
      have h3 := pos_get hk'
      obtain ⟨h4, h5⟩ := List.getElem?_eq_some_iff.1 h3
      rw [(List.getElem_inj hnd).1 h5]
    · rw [backId_hi h1]
      cases hp : pos ids (fr + (k - ids.length)) with
      | some k' =>
        have h3 := List.mem_of_getElem? (pos_get hp)
        exact absurd ⟨by omega, by omega⟩ (hout _ (hids _ h3).2)
      | none =>
        simp only
        rw [if_pos (by omega)]
        congr 1
        omega
  have hLB : ∀ i, (∀ k, k < objs.length → backId ids fr k ≠ i) → (h i).alive = true → backL β β' ids fr i = β i ∧ i ∉ ids := by
    intro i hi ha
    have hni : i ∉ ids := fun hm => by
      obtain ⟨n, hn, rfl⟩ := List.getElem_of_mem hm
      exact hi n (by omega) (backId_lo (List.getElem?_eq_getElem hn))
    refine ⟨?_, hni⟩
    unfold backL
    cases hp : pos ids i with
    | some k => exact absurd (List.mem_of_getElem? (pos_get hp)) hni
    | none => simp only; rw [if_neg (hout i ha)]
  have hcase : ∀ i, (∃ k o, objs[k]? = some o ∧ backId ids fr k = i) ∨ (∀ k, k < objs.length → backId ids fr k ≠ i) := fun i => by
    by_cases hc : ∃ k, k < objs.length ∧ backId ids fr k = i
    · obtain ⟨k, hk, he⟩ := hc
      exact .inl ⟨k, _, List.getElem?_eq_getElem hk, he⟩
    · exact .inr (fun k hk he => hc ⟨k, hk, he⟩)
  have hob : ∀ {k o}, objs[k]? = some o → hOf objs k = o := fun hk => by rw [hOf_get, hk]; rfl
  have hro_rw : ∀ o : Ob, o.setRo.rw = false := fun o => by cases o <;> rfl
  have hro_alive : ∀ o : Ob, o.setRo.alive = o.alive := fun o => by cases o <;> rfl
  -- whose blocks may be written
  have hmine : ∀ i, Mine H (backL β β' ids fr) i → (∃ k, k < objs.length ∧ backId ids fr k = i ∧ Mine (hOf objs) β' k ∧ backL β β' ids fr i = β' k) ∨ (Mine h β i ∧ i ∉ ids ∧ backL β β' ids fr i = β i ∧ (lentOk T v objs = true ∨ i ∉ bor)) := by
    intro i ⟨h1, h2⟩
    rcases hcase i with ⟨k, o, hk, rfl⟩ | hc
    · left
      have hkl := (List.getElem?_eq_some_iff.1 hk).1
      rw [hA k o hk, ren_rw] at h1
      rw [hLA k hkl] at h2
      exact ⟨k, hkl, rfl, ⟨by rw [hob hk]; exact h1, h2⟩, hLA k hkl⟩
    · right
      rcases hB i hc with ⟨h3, h4⟩ | ⟨_, _, h3⟩
      · rw [h3] at h1
        obtain ⟨h5, h6⟩ := hLB i hc (Ob.rw_alive h1)
        rw [h5] at h2
        exact ⟨⟨h1, h2⟩, h6, h5, h4⟩
      · rw [h3, hro_rw] at h1
        cases h1
  -- the callee's blocks are old ones of its own, or new
  have hcal : ∀ k, Mine (hOf objs) β' k → (∃ i, i ∈ ids ∧ Mine h β i ∧ (β i).b = (β' k).b) ∨ w.heap.size ≤ (β' k).b := by
    intro k hk
    rcases gd.wk.fresh k hk with ⟨k', hk', e⟩ | e
    · obtain ⟨i, hi, mi, ei⟩ := reMine hk'
      exact .inl ⟨i, List.mem_of_getElem? hi, mi, ei.symm.trans e⟩
    · exact .inr e
  have hframe : ∀ b, b < w.heap.size → (∀ i, Mine h β i → i ∈ ids → (β i).b ≠ b) → w'.heap[b]? = w.heap[b]? := fun b hb hn =>
    gd.wk.frame b hb (fun k hk he => by
      obtain ⟨i, hi, mi, ei⟩ := reMine hk
      exact hn i mi (List.mem_of_getElem? hi) (ei.symm.trans he))
  have hhd : ∀ i, Hd (h i) (β i) (H i) (backL β β' ids fr i) := by
    intro i
    cases hdead : (h i).alive with
    | false =>
      cases hq : h i with
      | dead => trivial
      | _ => rw [hq] at hdead; cases hdead
    | true =>
      rcases hcase i with ⟨k, o, hk, rfl⟩ | hc
      · have hkl := (List.getElem?_eq_some_iff.1 hk).1
        rcases Nat.lt_or_ge k ids.length with h1 | h1
        · have h2 := List.getElem?_eq_getElem h1
          have h3 := gd.wk.hd k h1
          have hbid : backId ids fr k = ids[k] := backId_lo h2
          rw [reH_some h2, reL_some h2, hob hk] at h3
          rw [hA k o hk, hLA k hkl, hbid]
          have hg : backGen view ids k = (h ids[k]).gen := by rw [backGen, h2]; exact congrArg Ob.gen (hids _ (List.getElem_mem h1)).1
          rw [hg]
          cases hq : h ids[k] with
          | dead => trivial
          | box ro cs =>
            rw [hq] at h3
            obtain ⟨⟨ro', cs', rfl⟩, e⟩ := h3
            exact ⟨⟨_, _, rfl⟩, e⟩
          | row ro g t vs =>
            rw [hq] at h3
            obtain ⟨ro', g', t', vs', rfl, hg', e⟩ := h3
            refine ⟨ro', _, t', vs', rfl, ?_, fun he => e ?_⟩
            · show g ≤ g' + g
              omega
            · have he : g = g' + g := he
              show 0 = g'
              omega
          | dict ro t ks vs =>
            rw [hq] at h3
            obtain ⟨⟨ro', t', ks', vs', rfl⟩, e⟩ := h3
            exact ⟨⟨_, _, _, _, rfl⟩, e⟩
        · rw [backId_hi h1] at hdead
          exact absurd ⟨by omega, by omega⟩ (hout _ hdead)
      · rw [(hLB i hc hdead).1]
        rcases hB i hc with ⟨h3, _⟩ | ⟨_, _, h3⟩
        · rw [h3]; exact Hd.refl _ _
        · rw [h3]
          cases hq : h i with
          | dead => trivial
          | box ro cs => exact ⟨⟨_, _, rfl⟩, rfl⟩
          | row ro g t vs => exact ⟨_, _, _, _, rfl, Nat.le_refl _, fun _ => ⟨rfl, rfl, rfl⟩⟩
          | dict ro t ks vs => exact ⟨⟨_, _, _, _, rfl⟩, rfl⟩
  have st : Stp h β w H (backL β β' ids fr) w' := by
    refine ⟨gd.wk.os, gd.wk.tape, gd.wk.output, gd.wk.size, fun b hb hn => hframe b hb (fun i mi _ => hn i mi), fun i hi => ?_, hhd⟩
    rcases hmine i hi with ⟨k, _, _, mk, e⟩ | ⟨mi, _, e, _⟩
    · rw [e]
      rcases hcal k mk with ⟨j, _, mj, ej⟩ | e'
      · exact .inl ⟨j, mj, ej⟩
      · exact .inr e'
    · exact .inl ⟨i, mi, by rw [e]⟩
  have hk := st.kept cx
  have hown : ∀ b, Own Z H (backL β β' ids fr) b → Own (lent Z h β ids bor) (hOf objs) β' b ∨ (lentOk T v objs = true ∧ ∃ j, j ∈ bor ∧ Mine h β j ∧ (β j).b = b) := by
    rintro b (hz | ⟨i, hi, e⟩)
    · exact .inl (.inl (.inl hz))
    · rcases hmine i hi with ⟨k, _, _, mk, e'⟩ | ⟨mi, hni, e', hl⟩
      · exact .inl (.inr ⟨k, mk, by rw [← e']; exact e⟩)
      · rw [e'] at e
        by_cases hib : i ∈ bor
        · exact .inr ⟨hl.resolve_right (fun hn => hn hib), i, hib, mi, e⟩
        · exact .inl (.inl (.inr ⟨i, mi, hni, hib, e⟩))
  have hback : ∀ (O : Nat → Prop) (r : V) (y : Value), RefRep T (hOf objs) β' r y → Rep T w' O (renRef (fun i => some (backId ids fr i)) (fun i g => some (g + backGen view ids i)) r) (RefRep T H (backL β β' ids fr)) y := by
    intro O r y hr
    have aux : ∀ k o, hOf objs k = o → o.alive = true → objs[k]? = some o ∧ k < objs.length := fun k o he ha => by
      rw [hOf_get] at he
      cases hq : objs[k]? with
      | none => rw [hq] at he; subst he; cases ha
      | some o' => rw [hq] at he; simp at he; subst he; exact ⟨rfl, (List.getElem?_eq_some_iff.1 hq).1⟩
    cases r with
    | box i j =>
      obtain ⟨⟨ro, cs, e⟩, hy⟩ := hr
      obtain ⟨h1, h2⟩ := aux i _ e rfl
      exact ⟨⟨ro, _, hA i _ h1⟩, by rw [hLA i h2]; exact hy⟩
    | full t i g n =>
      obtain ⟨ro, g', t', vs, e, hg, hsl, hx⟩ := hr
      obtain ⟨h1, h2⟩ := aux i _ e rfl
      refine ⟨ro, g' + backGen view ids i, t', vs, hA i _ h1, by omega, hsl, fun he => ?_⟩
      rw [hLA i h2]
      exact hx (by omega)
    | sub t i g o n =>
      obtain ⟨ro, g', t', vs, e, hg, hsl, hx⟩ := hr
      obtain ⟨h1, h2⟩ := aux i _ e rfl
      refine ⟨ro, g' + backGen view ids i, t', vs, hA i _ h1, by omega, hsl, fun he => ?_⟩
      rw [hLA i h2]
      exact hx (by omega)
    | elt i g a j =>
      obtain ⟨ro, g', t', vs, e, hg, hsl, hx⟩ := hr
      obtain ⟨h1, h2⟩ := aux i _ e rfl
      refine ⟨ro, g' + backGen view ids i, t', vs, hA i _ h1, by omega, hsl, fun he => ?_⟩
      rw [hLA i h2]
      exact hx (by omega)
    | mref i =>
      obtain ⟨⟨ro, t, ks, vs, e⟩, hy⟩ := hr
      obtain ⟨h1, h2⟩ := aux i _ e rfl
      exact ⟨⟨ro, _, _, _, hA i _ h1⟩, by rw [hLA i h2]; exact hy⟩
    | _ => exact hr.elim
  have hlt : ∀ i, Mine h β i → (β i).b < w.heap.size := fun i mi => (cx.ob i).lt (Ob.rw_alive mi.1) mi.2
  refine ⟨⟨fun i => ?_, fun i ha hr hn => ?_, fun a b hab ha hb => ?_, fun b hz => Nat.lt_of_lt_of_le (cx.zlt b hz) gd.wk.size, fun i hi hz => ?_, fun g => Rep.kept hk _ _ _ _ (fun _ _ h => h) (cx.glob g)⟩, st, ?_, fun i hi => ?_⟩
  · rcases hcase i with ⟨k, o, hko, rfl⟩ | hc
    · have hkl := (List.getElem?_eq_some_iff.1 hko).1
      rw [hA k o hko, hLA k hkl]
      have h1 := gd.cx.ob k
      rw [hob hko] at h1
      refine ObRep.ren _ (fun r y hr => hback _ r y hr) ?_
      cases hl : lentOk T v objs with
      | true =>
        unfold lentOk at hl
        rw [Bool.and_eq_true, List.all_eq_true] at hl
        have h2 := hl.2 o (List.mem_of_getElem? hko)
        rw [Bool.and_eq_true] at h2
        exact h1.flat h2.1
      | false =>
        refine h1.kept (Kept.less (fun b hb => ?_)) (fun _ _ h => h) (fun _ => rfl)
        rcases hown b hb with h2 | ⟨h2, _⟩
        · exact h2
        · rw [hl] at h2; cases h2
    · cases hal2 : (h i).alive with
      | false =>
        have hq : h i = .dead := by
          cases hq : h i with
          | dead => rfl
          | _ => rw [hq] at hal2; cases hal2
        have : H i = .dead := by
          rcases hB i hc with ⟨h3, _⟩ | ⟨_, _, h3⟩ <;> rw [h3, hq]
          rfl
        rw [this]
        trivial
      | true =>
        obtain ⟨h5, h6⟩ := hLB i hc hal2
        rw [h5]
        have h7 : ObRep T w' (Own Z H (backL β β' ids fr)) (RefRep T H (backL β β' ids fr)) (β i) (h i) := by
          refine (cx.ob i).kept hk (fun _ _ h => st.refs h) (fun hn => ?_)
          have hl := (cx.ob i).lt hal2 hn
          refine hframe _ hl (fun j mj hj e => ?_)
          by_cases hrw : (h i).rw = true
          · exact cx.inj j i (fun e' => h6 (by rw [← e']; exact hj)) mj ⟨hrw, hn⟩ e
          · exact cx.ro i hal2 (by simpa using hrw) hn (.inr ⟨j, mj, e⟩)
        rcases hB i hc with ⟨h3, _⟩ | ⟨_, _, h3⟩
        · rw [h3]; exact h7
        · rw [h3]; exact h7.setRo
  · rcases hcase i with ⟨k, o, hko, rfl⟩ | hc
    · have hkl := (List.getElem?_eq_some_iff.1 hko).1
      rw [hA k o hko] at ha hr
      rw [ren_alive] at ha
      rw [ren_rw] at hr
      rw [hLA k hkl] at hn ⊢
      intro hO
      rcases hown _ hO with h2 | ⟨h2, _⟩
      · exact gd.cx.ro k (by rw [hob hko]; exact ha) (by rw [hob hko]; exact hr) hn h2
      · unfold lentOk at h2
        rw [Bool.and_eq_true, List.all_eq_true] at h2
        have h3 := h2.2 o (List.mem_of_getElem? hko)
        rw [hr, ha] at h3
        simp at h3
    · rcases hB i hc with ⟨h3, _⟩ | ⟨hib, _, h3⟩
      · rw [h3] at ha hr
        obtain ⟨h5, h6⟩ := hLB i hc ha
        rw [h5] at hn ⊢
        exact hk.own _ ((cx.ob i).lt ha hn) (cx.ro i ha hr hn)
      · rw [h3, hro_alive] at ha
        obtain ⟨h5, h6⟩ := hLB i hc ha
        rw [h5] at hn ⊢
        have hl := (cx.ob i).lt ha hn
        by_cases hrw : (h i).rw = true
        · have mi : Mine h β i := ⟨hrw, hn⟩
          rintro (hz | ⟨j, mj, e⟩)
          · exact cx.zown i mi hz
          · have hji : j ≠ i := fun e' => by
              subst e'
              have := mj.1
              rw [h3, hro_rw] at this
              cases this
            rcases hmine j mj with ⟨k, _, _, mk, e'⟩ | ⟨mj', _, e', _⟩
            · rw [e'] at e
              rcases hcal k mk with ⟨a, ha', ma, ea⟩ | e2
              · exact cx.inj a i (fun e3 => h6 (by rw [← e3]; exact ha')) ma mi (ea.trans e)
              · omega
            · rw [e'] at e
              exact cx.inj j i hji mj' mi e
        · exact hk.own _ hl (cx.ro i ha (by simpa using hrw) hn)
  · rcases hmine a ha with ⟨k, hkl, hka, mk, e⟩ | ⟨ma, hna, e, _⟩ <;> rcases hmine b hb with ⟨k', hkl', hkb, mk', e'⟩ | ⟨mb, hnb, e', _⟩ <;> rw [e, e']
    · exact gd.cx.inj k k' (fun h1 => hab (by rw [← hka, ← hkb, h1])) mk mk'
    · intro h1
      rcases hcal k mk with ⟨j, hj, mj, ej⟩ | e2
      · exact cx.inj j b (fun h2 => hnb (by rw [← h2]; exact hj)) mj mb (ej.trans h1)
      · have := hlt b mb; omega
    · intro h1
      rcases hcal k' mk' with ⟨j, hj, mj, ej⟩ | e2
      · exact cx.inj j a (fun h2 => hna (by rw [← h2]; exact hj)) mj ma (ej.trans h1.symm)
      · have := hlt a ma; omega
    · exact cx.inj a b hab ma mb
  · rcases hmine i hi with ⟨k, _, _, mk, e⟩ | ⟨mi, _, e, _⟩
    · rw [e] at hz
      rcases hcal k mk with ⟨j, _, mj, ej⟩ | e2
      · rw [← ej] at hz; exact cx.zown j mj hz
      · have := cx.zlt _ hz; omega
    · rw [e] at hz; exact cx.zown i mi hz
  · refine Rep.mapRef v _ _ x (fun r y hr => hback _ r y hr) ?_
    cases hl : lentOk T v objs with
    | true =>
      unfold lentOk at hl
      rw [Bool.and_eq_true] at hl
      exact Rep.flat v _ _ hl.1 gd.rep
    | false =>
      refine Rep.kept (Kept.less (fun b hb => ?_)) v _ _ x (fun _ _ h => h) gd.rep
      rcases hown b hb with h2 | ⟨h2, _⟩
      · exact h2
      · rw [hl] at h2; cases h2
  · rcases hcase i with ⟨k, o, hko, rfl⟩ | hc
    · have hkl := (List.getElem?_eq_some_iff.1 hko).1
      rcases Nat.lt_or_ge k ids.length with h1 | h1
      · rw [backId_lo (List.getElem?_eq_getElem h1)]
        exact .inl (hids _ (List.getElem_mem h1)).2
      · rw [backId_hi h1]
        exact .inr ⟨by omega, by omega⟩
    · rcases hB i hc with ⟨h3, _⟩ | ⟨hib, _, _⟩
      · exact absurd h3 hi
      · exact .inl (hbor i hib).2.1
end
end Go.AH
