/- What the values of the abstract run stand for, in a world. -/
import Derived.Test.YtecplbjggbelbaaAH
namespace Go.AH
open Go Go.RowKit

def noR : V → Value → Prop := fun _ _ => False
/-- The cells from a place on. -/
def Lies (w : World) (b o : Nat) (cs : List Value) : Prop := ∀ (j : Nat) (u : Value), cs[j]? = some u → w.cell? ⟨b, o + j, none⟩ = some u
def mkVal (a : Bool) (cs : List Value) : Value := match a with | true => .agg cs.toArray | false => cs.headD undef
def isAggV : V → Bool | .agg _ => true | _ => false

/-- A map's keys and elements have their types' forms. -/
def DictOk (T : TypeId → Ty) (t : TypeId) (ks vs : List V) : Prop := ∀ kt et, (T t).d = .map kt et → (∀ k ∈ ks, isFormT (T kt) k = true) ∧ (∀ v ∈ vs, isFormT (T et) v = true ∧ etaT (T et) v = v)
mutual
def Rep (T : TypeId → Ty) (w : World) (O : Nat → Prop) : V → (V → Value → Prop) → Value → Prop
  | .top, _, _ => True
  | .bool b, _, x => x = .bool b
  | .int k n, _, x => x = .int k n
  | .str s, _, x => ∃ b : ByteArray, x = .string b ∧ b.data.toList = s
  | .nilp, _, x => x = .pointer none
  | .nilm, _, x => x = .map none
  | .nilf, _, x => x = .nilFunc
  | .nili, _, x => x = .nilIface
  | .agg cs, R, x => ∃ a : Array Value, x = .agg a ∧ RepL T w O cs R a.toList
  | .tup cs, R, x => ∃ a : Array Value, x = .tuple a ∧ RepL T w O cs R a.toList
  | .seq t vs, _, x => ∃ a cap, x = .slice a vs.length cap ∧ vs.length ≤ cap ∧ (vs = [] ∨ ∃ b o, a = some ⟨b, o, none⟩ ∧ b < w.heap.size ∧ ¬ O b ∧ RepSeq T w O vs t b o)
  | .pref cs, _, x => ∃ b o l, x = .pointer (some ⟨b, o, none⟩) ∧ b < w.heap.size ∧ ¬ O b ∧ Lies w b o l ∧ RepL T w O cs noR l
  | .dict t ks vs, _, x => ∃ (r : Nat) (es : Array MapEntry) (clk : Nat), x = .map (some r) ∧ r < w.heap.size ∧ ¬ O r ∧ w.heap[r]? = some (.map es clk) ∧ DictOk T t ks vs ∧ RepL T w O ks noR (es.toList.map (·.key)) ∧ RepL T w O vs noR (es.toList.map (·.val))
  | .clo f a b, R, x => ∃ p q : Array Value, x = .func (.func f) p q ∧ RepL T w O a R p.toList ∧ RepL T w O b R q.toList
  | .iface t v, R, x => ∃ y, x = .iface t y ∧ Rep T w O v R y
  | .box i j, R, x => R (.box i j) x
  | .full t i g n, R, x => R (.full t i g n) x
  | .sub t i g o n, R, x => R (.sub t i g o n) x
  | .elt i g k j, R, x => R (.elt i g k j) x
  | .mref i, R, x => R (.mref i) x
def RepL (T : TypeId → Ty) (w : World) (O : Nat → Prop) : List V → (V → Value → Prop) → List Value → Prop
  | [], _, l => l = []
  | v :: vs, R, l => ∃ x r, l = x :: r ∧ Rep T w O v R x ∧ RepL T w O vs R r
def RepSeq (T : TypeId → Ty) (w : World) (O : Nat → Prop) : List V → TypeId → Nat → Nat → Prop
  | [], _, _, _ => True
  | v :: vs, t, b, o => (isFormT (T t) v = true ∧ etaT (T t) v = v) ∧ (∃ cs : List Value, cs.length = (T t).size ∧ Lies w b o cs ∧ Rep T w O v noR (mkVal (T t).agg cs)) ∧ RepSeq T w O vs t b (o + (T t).size)
end

section
variable {T : TypeId → Ty} {w w' : World} {O O' : Nat → Prop}

/-- The world has kept what is outside O. -/
structure Kept (w w' : World) (O O' : Nat → Prop) : Prop where
  size : w.heap.size ≤ w'.heap.size
  same : ∀ b, b < w.heap.size → ¬ O b → w'.heap[b]? = w.heap[b]?
  own : ∀ b, b < w.heap.size → ¬ O b → ¬ O' b

theorem Lies.kept {b o : Nat} {cs : List Value} (h : Lies w b o cs) (hb : w'.heap[b]? = w.heap[b]?) : Lies w' b o cs := by
  intro j u hj
  rw [World.cell?_of_block (w := w) hb]
  exact h j u hj

mutual
theorem Rep.kept (hk : Kept w w' O O') : ∀ (v : V) (R R' : V → Value → Prop) (x : Value), (∀ r y, R r y → R' r y) → Rep T w O v R x → Rep T w' O' v R' x
  | .top, _, _, _, _, _ => trivial
  | .bool _, _, _, _, _, h => h
  | .int _ _, _, _, _, _, h => h
  | .str _, _, _, _, _, h => h
  | .nilp, _, _, _, _, h => h
  | .nilm, _, _, _, _, h => h
  | .nilf, _, _, _, _, h => h
  | .nili, _, _, _, _, h => h
  | .agg cs, R, R', _, hR, h => by
    obtain ⟨a, rfl, h⟩ := h
    exact ⟨a, rfl, RepL.kept hk cs R R' _ hR h⟩
  | .tup cs, R, R', _, hR, h => by
    obtain ⟨a, rfl, h⟩ := h
    exact ⟨a, rfl, RepL.kept hk cs R R' _ hR h⟩
  | .seq t vs, _, _, _, _, h => by
    obtain ⟨a, cap, rfl, hc, h⟩ := h
    refine ⟨a, cap, rfl, hc, ?_⟩
    rcases h with h | ⟨b, o, rfl, h1, h2, h3⟩
    · exact .inl h
    · exact .inr ⟨b, o, rfl, Nat.lt_of_lt_of_le h1 hk.size, hk.own b h1 h2, RepSeq.kept hk vs t b o (hk.same b h1 h2) h3⟩
  | .pref cs, _, _, _, _, h => by
    obtain ⟨b, o, l, rfl, h1, h2, h3, h4⟩ := h
    exact ⟨b, o, l, rfl, Nat.lt_of_lt_of_le h1 hk.size, hk.own b h1 h2, h3.kept (hk.same b h1 h2), RepL.kept hk cs _ _ _ (fun _ _ h => h) h4⟩
  | .dict t ks vs, _, _, _, _, h => by
    obtain ⟨r, es, clk, rfl, h1, h2, h3, hd, h4, h5⟩ := h
    exact ⟨r, es, clk, rfl, Nat.lt_of_lt_of_le h1 hk.size, hk.own r h1 h2, (hk.same r h1 h2).trans h3, hd, RepL.kept hk ks _ _ _ (fun _ _ h => h) h4, RepL.kept hk vs _ _ _ (fun _ _ h => h) h5⟩
  | .clo f a b, R, R', _, hR, h => by
    obtain ⟨p, q, rfl, h1, h2⟩ := h
    exact ⟨p, q, rfl, RepL.kept hk a R R' _ hR h1, RepL.kept hk b R R' _ hR h2⟩
  | .iface t v, R, R', _, hR, h => by
    obtain ⟨y, rfl, h⟩ := h
    exact ⟨y, rfl, Rep.kept hk v R R' _ hR h⟩
  | .box .., _, _, _, hR, h => hR _ _ h
  | .full .., _, _, _, hR, h => hR _ _ h
  | .sub .., _, _, _, hR, h => hR _ _ h
  | .elt .., _, _, _, hR, h => hR _ _ h
  | .mref .., _, _, _, hR, h => hR _ _ h
theorem RepL.kept (hk : Kept w w' O O') : ∀ (vs : List V) (R R' : V → Value → Prop) (l : List Value), (∀ r y, R r y → R' r y) → RepL T w O vs R l → RepL T w' O' vs R' l
  | [], _, _, _, _, h => h
  | v :: vs, R, R', _, hR, h => by
    obtain ⟨x, r, rfl, h1, h2⟩ := h
    exact ⟨x, r, rfl, Rep.kept hk v R R' x hR h1, RepL.kept hk vs R R' r hR h2⟩
theorem RepSeq.kept (hk : Kept w w' O O') : ∀ (vs : List V) (t b o : Nat), w'.heap[b]? = w.heap[b]? → RepSeq T w O vs t b o → RepSeq T w' O' vs t b o
  | [], _, _, _, _, _ => trivial
  | v :: vs, t, b, o, hb, h => by
    obtain ⟨h1, ⟨cs, h2, h3, h4⟩, h5⟩ := h
    exact ⟨h1, ⟨cs, h2, h3.kept hb, Rep.kept hk v _ _ _ (fun _ _ h => h) h4⟩, RepSeq.kept hk vs t b _ hb h5⟩
end

/- References renamed. -/
mutual
theorem Rep.mapRef {φ : V → V} : ∀ (v : V) (R R' : V → Value → Prop) (x : Value), (∀ r y, R r y → Rep T w O (φ r) R' y) → Rep T w O v R x → Rep T w O (v.mapRef φ) R' x
  | .top, _, _, _, _, _ => by simp [V.mapRef, Rep]
  | .bool _, _, _, _, _, h => by simpa [V.mapRef, Rep] using h
  | .int _ _, _, _, _, _, h => by simpa [V.mapRef, Rep] using h
  | .str _, _, _, _, _, h => by simpa [V.mapRef, Rep] using h
  | .nilp, _, _, _, _, h => by simpa [V.mapRef, Rep] using h
  | .nilm, _, _, _, _, h => by simpa [V.mapRef, Rep] using h
  | .nilf, _, _, _, _, h => by simpa [V.mapRef, Rep] using h
  | .nili, _, _, _, _, h => by simpa [V.mapRef, Rep] using h
  | .agg cs, R, R', _, hR, h => by
    obtain ⟨a, rfl, h⟩ := h
    rw [V.mapRef]
    exact ⟨a, rfl, RepL.mapRef cs R R' _ hR h⟩
  | .tup cs, R, R', _, hR, h => by
    obtain ⟨a, rfl, h⟩ := h
    rw [V.mapRef]
    exact ⟨a, rfl, RepL.mapRef cs R R' _ hR h⟩
  | .seq t vs, _, _, _, _, h => by simpa [V.mapRef, Rep] using h
  | .pref cs, _, _, _, _, h => by simpa [V.mapRef, Rep] using h
  | .dict t ks vs, _, _, _, _, h => by simpa [V.mapRef, Rep] using h
  | .clo f a b, R, R', _, hR, h => by
    obtain ⟨p, q, rfl, h1, h2⟩ := h
    rw [V.mapRef]
    exact ⟨p, q, rfl, RepL.mapRef a R R' _ hR h1, RepL.mapRef b R R' _ hR h2⟩
  | .iface t v, R, R', _, hR, h => by
    obtain ⟨y, rfl, h⟩ := h
    rw [V.mapRef]
    exact ⟨y, rfl, Rep.mapRef v R R' _ hR h⟩
  | .box .., _, _, _, hR, h => by rw [V.mapRef]; exact hR _ _ h
  | .full .., _, _, _, hR, h => by rw [V.mapRef]; exact hR _ _ h
  | .sub .., _, _, _, hR, h => by rw [V.mapRef]; exact hR _ _ h
  | .elt .., _, _, _, hR, h => by rw [V.mapRef]; exact hR _ _ h
  | .mref .., _, _, _, hR, h => by rw [V.mapRef]; exact hR _ _ h
theorem RepL.mapRef {φ : V → V} : ∀ (vs : List V) (R R' : V → Value → Prop) (l : List Value), (∀ r y, R r y → Rep T w O (φ r) R' y) → RepL T w O vs R l → RepL T w O (V.mapRefs φ vs) R' l
  | [], _, _, _, _, h => by simpa [V.mapRefs, RepL] using h
  | v :: vs, R, R', _, hR, h => by
    obtain ⟨x, r, rfl, h1, h2⟩ := h
    rw [V.mapRefs]
    exact ⟨x, r, rfl, Rep.mapRef v R R' x hR h1, RepL.mapRef vs R R' r hR h2⟩
end

mutual
/-- A value is also what it is where fewer references are known, if its own are. -/
theorem Rep.refs : ∀ (v : V) (R R' : V → Value → Prop) (x : Value), (∀ r y, (∀ i ∈ r.refs, i ∈ v.refs) → R r y → R' r y) → Rep T w O v R x → Rep T w O v R' x
  | .top, _, _, _, _, _ => trivial
  | .bool _, _, _, _, _, h => h
  | .int _ _, _, _, _, _, h => h
  | .str _, _, _, _, _, h => h
  | .nilp, _, _, _, _, h => h
  | .nilm, _, _, _, _, h => h
  | .nilf, _, _, _, _, h => h
  | .nili, _, _, _, _, h => h
  | .agg cs, R, R', _, hR, h => by
    obtain ⟨a, rfl, h⟩ := h
    exact ⟨a, rfl, RepL.refs cs R R' _ (fun r y h => hR r y (fun i hi => by rw [V.refs]; exact h i hi)) h⟩
  | .tup cs, R, R', _, hR, h => by
    obtain ⟨a, rfl, h⟩ := h
    exact ⟨a, rfl, RepL.refs cs R R' _ (fun r y h => hR r y (fun i hi => by rw [V.refs]; exact h i hi)) h⟩
  | .seq t vs, _, _, _, _, h => h
  | .pref cs, _, _, _, _, h => h
  | .dict t ks vs, _, _, _, _, h => h
  | .clo f a b, R, R', _, hR, h => by
    obtain ⟨p, q, rfl, h1, h2⟩ := h
    exact ⟨p, q, rfl, RepL.refs a R R' _ (fun r y h => hR r y (fun i hi => by rw [V.refs]; exact List.mem_append.2 (.inl (h i hi)))) h1, RepL.refs b R R' _ (fun r y h => hR r y (fun i hi => by rw [V.refs]; exact List.mem_append.2 (.inr (h i hi)))) h2⟩
  | .iface t v, R, R', _, hR, h => by
    obtain ⟨y, rfl, h⟩ := h
    exact ⟨y, rfl, Rep.refs v R R' _ (fun r y h => hR r y (fun i hi => by rw [V.refs]; exact h i hi)) h⟩
  | .box .., _, _, _, hR, h => hR _ _ (fun _ h => h) h
  | .full .., _, _, _, hR, h => hR _ _ (fun _ h => h) h
  | .sub .., _, _, _, hR, h => hR _ _ (fun _ h => h) h
  | .elt .., _, _, _, hR, h => hR _ _ (fun _ h => h) h
  | .mref .., _, _, _, hR, h => hR _ _ (fun _ h => h) h
theorem RepL.refs : ∀ (vs : List V) (R R' : V → Value → Prop) (l : List Value), (∀ r y, (∀ i ∈ r.refs, i ∈ V.refsL vs) → R r y → R' r y) → RepL T w O vs R l → RepL T w O vs R' l
  | [], _, _, _, _, h => h
  | v :: vs, R, R', _, hR, h => by
    obtain ⟨x, r, rfl, h1, h2⟩ := h
    exact ⟨x, r, rfl, Rep.refs v R R' x (fun r y h => hR r y (fun i hi => by rw [V.refsL]; exact List.mem_append.2 (.inl (h i hi)))) h1, RepL.refs vs R R' r (fun r y h => hR r y (fun i hi => by rw [V.refsL]; exact List.mem_append.2 (.inr (h i hi)))) h2⟩
end

mutual
/-- A flat value looks at no memory. -/
theorem Rep.flat : ∀ (v : V) (R : V → Value → Prop) (x : Value), v.flat = true → Rep T w O v R x → Rep T w' O' v R x
  | .top, _, _, _, _ => trivial
  | .bool _, _, _, _, h => h
  | .int _ _, _, _, _, h => h
  | .str _, _, _, _, h => h
  | .nilp, _, _, _, h => h
  | .nilm, _, _, _, h => h
  | .nilf, _, _, _, h => h
  | .nili, _, _, _, h => h
  | .agg cs, R, _, hf, h => by
    obtain ⟨a, rfl, h⟩ := h
    rw [V.flat] at hf
    exact ⟨a, rfl, RepL.flat cs R _ hf h⟩
  | .tup cs, R, _, hf, h => by
    obtain ⟨a, rfl, h⟩ := h
    rw [V.flat] at hf
    exact ⟨a, rfl, RepL.flat cs R _ hf h⟩
  | .seq t vs, _, _, hf, _ => by simp [V.flat] at hf
  | .pref cs, _, _, hf, _ => by simp [V.flat] at hf
  | .dict t ks vs, _, _, hf, _ => by simp [V.flat] at hf
  | .clo f a b, R, _, hf, h => by
    obtain ⟨p, q, rfl, h1, h2⟩ := h
    rw [V.flat, Bool.and_eq_true] at hf
    exact ⟨p, q, rfl, RepL.flat a R _ hf.1 h1, RepL.flat b R _ hf.2 h2⟩
  | .iface t v, R, _, hf, h => by
    obtain ⟨y, rfl, h⟩ := h
    rw [V.flat] at hf
    exact ⟨y, rfl, Rep.flat v R _ hf h⟩
  | .box .., _, _, _, h => h
  | .full .., _, _, _, h => h
  | .sub .., _, _, _, h => h
  | .elt .., _, _, _, h => h
  | .mref .., _, _, _, h => h
theorem RepL.flat : ∀ (vs : List V) (R : V → Value → Prop) (l : List Value), V.flatL vs = true → RepL T w O vs R l → RepL T w' O' vs R l
  | [], _, _, _, h => h
  | v :: vs, R, _, hf, h => by
    obtain ⟨x, r, rfl, h1, h2⟩ := h
    rw [V.flatL, Bool.and_eq_true] at hf
    exact ⟨x, r, rfl, Rep.flat v R x hf.1 h1, RepL.flat vs R r hf.2 h2⟩
end

theorem Rep.noRef {v : V} {R R' : V → Value → Prop} {x : Value} (h : Rep T w O v R x) (hn : v.noRef = true) (hR : ∀ r y, R r y → r.refs ≠ []) : Rep T w O v R' x := by
  refine Rep.refs v R R' x (fun r y hi hr => ?_) h
  have he : v.refs = [] := by simpa [V.noRef] using hn
  cases hq : r.refs with
  | nil => exact absurd hq (hR r y hr)
  | cons i l =>
    have := hi i (by rw [hq]; simp)
    rw [he] at this
    cases this

theorem RepL.length {vs : List V} {R : V → Value → Prop} : ∀ {l : List Value}, RepL T w O vs R l → l.length = vs.length := by
  induction vs with
  | nil => intro l h; rw [show l = [] from h]; rfl
  | cons v vs ih => intro l h; obtain ⟨x, r, rfl, _, h2⟩ := h; simp [ih h2]
theorem RepL.append {R : V → Value → Prop} : ∀ {vs us : List V} {l m : List Value}, RepL T w O vs R l → RepL T w O us R m → RepL T w O (vs ++ us) R (l ++ m)
  | [], _, _, _, h, k => by rw [h]; exact k
  | v :: vs, us, _, m, h, k => by
    obtain ⟨x, r, rfl, h1, h2⟩ := h
    exact ⟨x, r ++ m, rfl, h1, RepL.append h2 k⟩
theorem RepL.drop {R : V → Value → Prop} : ∀ {vs : List V} {l : List Value} (n : Nat), RepL T w O vs R l → RepL T w O (vs.drop n) R (l.drop n)
  | _, _, 0, h => by simpa using h
  | [], _, n + 1, h => by rw [h]; exact rfl
  | v :: vs, _, n + 1, h => by
    obtain ⟨x, r, rfl, _, h2⟩ := h
    exact RepL.drop n h2
theorem RepL.take {R : V → Value → Prop} : ∀ {vs : List V} {l : List Value} (n : Nat), RepL T w O vs R l → RepL T w O (vs.take n) R (l.take n)
  | _, _, 0, _ => rfl
  | [], _, n + 1, h => by rw [h]; exact rfl
  | v :: vs, _, n + 1, h => by
    obtain ⟨x, r, rfl, h1, h2⟩ := h
    exact ⟨x, r.take n, rfl, h1, RepL.take n h2⟩
theorem RepL.get {R : V → Value → Prop} : ∀ {vs : List V} {l : List Value} (n : Nat) (v : V), RepL T w O vs R l → vs[n]? = some v → ∃ x, l[n]? = some x ∧ Rep T w O v R x
  | [], _, _, _, _, hv => by simp at hv
  | u :: vs, _, 0, v, h, hv => by
    obtain ⟨x, r, rfl, h1, _⟩ := h
    simp at hv
    subst hv
    exact ⟨x, rfl, h1⟩
  | u :: vs, _, n + 1, v, h, hv => by
    obtain ⟨x, r, rfl, _, h2⟩ := h
    obtain ⟨y, h3, h4⟩ := RepL.get n v h2 (by simpa using hv)
    exact ⟨y, by simpa using h3, h4⟩
theorem RepL.of_all {R : V → Value → Prop} : ∀ {vs : List V} {l : List Value}, l.length = vs.length → (∀ (n : Nat) (v : V) (x : Value), vs[n]? = some v → l[n]? = some x → Rep T w O v R x) → RepL T w O vs R l
  | [], l, h, _ => by
    have : l = [] := by simpa using h
    exact this
  | v :: vs, [], h, _ => by simp at h
  | v :: vs, x :: r, h, hall => ⟨x, r, rfl, hall 0 v x rfl rfl, RepL.of_all (by simpa using h) (fun n u y h1 h2 => hall (n + 1) u y (by simpa using h1) (by simpa using h2))⟩

/- Forms. -/
theorem Rep.eta {k : Kd} {v : V} {R : V → Value → Prop} {x : Value} (h : Rep T w O v R x) (hf : isForm k v = true) : Rep T w O (eta k v) R x := by
  cases k <;> cases v <;> simp [isForm] at hf <;> first
    | exact h
    | (subst hf; exact h)
    | (rename_i e e' vs
       rcases hf with hf | hf
       · subst hf; exact h
       · subst hf; exact h)
theorem RepL.etaL {R : V → Value → Prop} : ∀ {ks : List Kd} {cs : List V} {l : List Value} {j : Nat} {v : V}, RepL T w O cs R l → isFormL ks cs = true → (∀ i, v.cell (j + i) = cs.getD i .top) → RepL T w O (etaL ks j v) R l
  | [], [], _, _, _, h, _, _ => h
  | [], _ :: _, _, _, _, _, hf, _ => by simp [isFormL] at hf
  | _ :: _, [], _, _, _, _, hf, _ => by simp [isFormL] at hf
  | k :: ks, c :: cs, _, j, v, h, hf, hv => by
    obtain ⟨x, r, rfl, h1, h2⟩ := h
    rw [isFormL, Bool.and_eq_true] at hf
    have h0 := hv 0
    rw [Nat.add_zero, List.getD_cons_zero] at h0
    refine ⟨x, r, rfl, ?_, RepL.etaL (j := j + 1) h2 hf.2 (fun i => ?_)⟩
    · rw [h0]; exact h1.eta hf.1
    · have := hv (i + 1)
      rw [List.getD_cons_succ] at this
      rw [← this]
      congr 1
      omega
theorem Rep.etaT {ty : Ty} {v : V} {R : V → Value → Prop} {x : Value} (h : Rep T w O v R x) (hf : isFormT ty v = true) : Rep T w O (AH.etaT ty v) R x := by
  obtain ⟨size, agg, bytes, kinds, d⟩ := ty
  cases agg with
  | true =>
    cases v <;> simp [isFormT] at hf
    rename_i cs
    obtain ⟨a, rfl, h⟩ := h
    exact ⟨a, rfl, RepL.etaL h hf (fun i => by simp [V.cell, V.cells])⟩
  | false =>
    match kinds, hf with
    | [k], hf => exact h.eta hf
    | [], hf => simp [isFormT] at hf
    | _ :: _ :: _, hf => simp [isFormT] at hf
theorem eta_eta (k : Kd) (v : V) : eta k (eta k v) = eta k v := by cases k <;> cases v <;> rfl
theorem etaL_len : ∀ (ks : List Kd) (j : Nat) (v : V), (etaL ks j v).length = ks.length
  | [], _, _ => rfl
  | _ :: ks, j, v => by simp [etaL, etaL_len ks]
theorem etaL_get : ∀ (ks : List Kd) (j : Nat) (v : V) (i : Nat) (k : Kd), ks[i]? = some k → (etaL ks j v)[i]? = some (eta k (v.cell (j + i)))
  | [], _, _, _, _, h => by simp at h
  | k :: ks, j, v, 0, k', h => by
    simp at h; subst h; simp [etaL]
  | k :: ks, j, v, i + 1, k', h => by
    simp at h
    simp only [etaL, List.getElem?_cons_succ]
    rw [etaL_get ks (j + 1) v i k' h]
    congr 3
    omega
theorem etaL_ext : ∀ (ks : List Kd) (j j' : Nat) (v v' : V), (∀ i k, ks[i]? = some k → eta k (v.cell (j + i)) = eta k (v'.cell (j' + i))) → etaL ks j v = etaL ks j' v'
  | [], _, _, _, _, _ => rfl
  | k :: ks, j, j', v, v', h => by
    have h0 := h 0 k rfl
    rw [Nat.add_zero, Nat.add_zero] at h0
    rw [etaL, etaL, h0]
    congr 1
    refine etaL_ext ks (j + 1) (j' + 1) v v' (fun i k' hk => ?_)
    have := h (i + 1) k' (by simpa using hk)
    rw [show j + 1 + i = j + (i + 1) from by omega, show j' + 1 + i = j' + (i + 1) from by omega]
    exact this
theorem etaT_etaT (ty : Ty) (v : V) : AH.etaT ty (AH.etaT ty v) = AH.etaT ty v := by
  obtain ⟨size, agg, bytes, kinds, d⟩ := ty
  cases agg with
  | true =>
    show V.agg (etaL kinds 0 (.agg (etaL kinds 0 v))) = .agg (etaL kinds 0 v)
    congr 1
    refine etaL_ext _ _ _ _ _ (fun i k hk => ?_)
    rw [Nat.zero_add]
    simp only [V.cell, V.cells]
    rw [List.getD_eq_getElem?_getD, etaL_get _ _ _ i k hk, Nat.zero_add, Option.getD_some]
    exact eta_eta k _
  | false =>
    match kinds with
    | [k] => exact eta_eta k v
    | [] => rfl
    | _ :: _ :: _ => rfl
theorem Rep.one {v : V} {R : V → Value → Prop} {x : Value} (h : Rep T w O v R x) (hs : v.storable = true) (hR : ∀ r y, R r y → y.oneCell' = true) : x.oneCell' = true := by
  cases v <;> simp [V.storable] at hs
  case bool b => rw [show x = _ from h]; rfl
  case int k n => rw [show x = _ from h]; rfl
  case str s => obtain ⟨b, rfl, _⟩ := h; rfl
  case nilp => rw [show x = _ from h]; rfl
  case nilm => rw [show x = _ from h]; rfl
  case nilf => rw [show x = _ from h]; rfl
  case nili => rw [show x = _ from h]; rfl
  case seq t vs => obtain ⟨a, c, rfl, _⟩ := h; rfl
  case pref cs => obtain ⟨b, o, l, rfl, _⟩ := h; rfl
  case dict t ks vs => obtain ⟨r, es, clk, rfl, _⟩ := h; rfl
  case clo f a b => obtain ⟨p, q, rfl, _⟩ := h; rfl
  case iface t v => obtain ⟨y, rfl, _⟩ := h; rfl
  all_goals exact hR _ _ h
theorem form_storable {k : Kd} {v : V} (h : isForm k v = true) : v.storable = true := by
  cases k <;> cases v <;> simp [isForm] at h <;> rfl
theorem eta_form {k : Kd} {v : V} (h : isForm k v = true) : isForm k (eta k v) = true := by
  cases k <;> cases v <;> simp_all [isForm, eta]
theorem eta_noRef {k : Kd} {v : V} (h : isForm k v = true) (hn : v.noRef = true) : (eta k v).noRef = true := by
  cases k <;> cases v <;> simp_all [isForm, eta, V.noRef, V.refs]
end
end Go.AH
