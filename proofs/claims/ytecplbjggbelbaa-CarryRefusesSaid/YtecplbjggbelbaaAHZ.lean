/- Drawn orders: operations that may change places. -/
import Derived.Test.YtecplbjggbelbaaAHJ
namespace Go.AH
open Go Go.RowKit

theorem upd_eq {α : Type} {f : Nat → α} {i : Nat} {x : α} (h : f i = x) : upd f i x = f := by
  funext j
  by_cases hj : j = i
  · subst hj; rw [upd_same, h]
  · rw [upd_other _ _ hj]
theorem updL_base {α : Type} : ∀ (l : List (Nat × α)) (f g : Nat → α) (k : Nat), (∃ p ∈ l, p.1 = k) → updL f l k = updL g l k
  | [], _, _, _, h => by simp at h
  | (i, x) :: l, f, g, k, h => by
    by_cases hc : ∃ p ∈ l, p.1 = k
    · exact updL_base l _ _ k hc
    · obtain ⟨p, hp, he⟩ := h
      rcases List.mem_cons.1 hp with rfl | hp
      · simp only at he
        subst he
        have hn : ∀ p ∈ l, p.1 ≠ i := fun p hp he => hc ⟨p, hp, he⟩
        rw [updL, updL, updL_not l _ i hn, updL_not l _ i hn, upd_same, upd_same]
      · exact absurd ⟨p, hp, he⟩ hc
theorem updL_comm {α : Type} (a b : List (Nat × α)) (f : Nat → α) (h : ∀ p ∈ a, ∀ q ∈ b, p.1 ≠ q.1) : updL (updL f a) b = updL (updL f b) a := by
  funext k
  by_cases hc : ∃ p ∈ a, p.1 = k
  · obtain ⟨p, hp, he⟩ := hc
    rw [updL_not b _ k (fun q hq he' => h p hp q hq (he.trans he'.symm))]
    exact updL_base a _ _ k ⟨p, hp, he⟩
  · have hn : ∀ p ∈ a, p.1 ≠ k := fun p hp he => hc ⟨p, hp, he⟩
    rw [updL_not a _ k hn]
    by_cases hd : ∃ q ∈ b, q.1 = k
    · exact updL_base b _ _ k hd
    · have hm : ∀ p ∈ b, p.1 ≠ k := fun p hp he => hd ⟨p, hp, he⟩
      rw [updL_not b _ k hm, updL_not b _ k hm, updL_not a _ k hn]
theorem putO_comm {s : Nat → V} {d e : Option Nat} {v u : V} (h : ∀ x, d = some x → e ≠ some x) : putO (putO s d v) e u = putO (putO s e u) d v := by
  cases d with
  | none => rfl
  | some d =>
    cases e with
    | none => rfl
    | some e =>
      have hne : d ≠ e := fun he => h d rfl (by rw [he])
      funext k
      show upd (upd s d v) e u k = upd (upd s e u) d v k
      by_cases h1 : k = d
      · subst h1
        rw [upd_same, upd_other _ _ hne, upd_same]
      · by_cases h2 : k = e
        · subst h2
          rw [upd_same, upd_other _ _ h1, upd_same]
        · rw [upd_other _ _ h2, upd_other _ _ h1, upd_other _ _ h1, upd_other _ _ h2]

section
variable {E : Env} {ops : List Oper} {base : Nat}

def guardV (ops : List Oper) (o : Oper) (slot : Nat → V) : Option Bool := match o.guard with
  | none => some true
  | some (i, want) => match (ops[i]?).bind (·.dst) with
    | some d => (match slot d with | .bool b => some (match want with | true => b | false => !b) | .tup [] => some false | _ => none)
    | none => none
def coreD (E : Env) (ops : List Oper) (base j : Nat) (o : Oper) (slot : Nat → V) (ob : Nat → Ob) : Option (V × Upd) := match (evOp E (viewOf true ops base j o ob) (slotOf true ops o slot) (base + 64 * j) o).eval with
  | some (.ok v u) => (match okU E o (base + 64 * j) (viewOf true ops base j o ob) u with | true => some (v, u) | false => none)
  | _ => none
def resD (E : Env) (ops : List Oper) (base j : Nat) (o : Oper) (slot : Nat → V) (ob : Nat → Ob) : Option (V × Upd) := match guardV ops o slot with
  | none => none
  | some false => some (.tup [], [])
  | some true => coreD E ops base j o slot ob
theorem bind_none {α β : Type} : ∀ {t : Tr α} {f : α → Tr β}, t.eval = none → (t.bind f).eval = none
  | .ret a, f, h => by simp [Tr.eval] at h
  | .ite true t e, f, h => bind_none (t := t) h
  | .ite false t e, f, h => bind_none (t := e) h
  | .fail, f, h => rfl
theorem stepWith_eval (o : Oper) (s : St) (j : Nat) : (stepWith E true ops base j o s).eval = (coreD E ops base j o s.slot s.ob).map fun p => Rg.go { s with slot := putO s.slot o.dst p.1, ob := updL s.ob p.2 } := by
  unfold stepWith coreD
  cases hq : (evOp E (viewOf true ops base j o s.ob) (slotOf true ops o s.slot) (base + 64 * j) o).eval with
  | none => rw [bind_none hq]; rfl
  | some x =>
    rw [bind_eval hq]
    cases x with
    | ok v u =>
      simp only [Bool.not_true, Bool.false_or]
      cases okU E o (base + 64 * j) (viewOf true ops base j o s.ob) u <;> rfl
    | pan v u => rfl
theorem stepOp_eval {o : Oper} {j : Nat} (ho : ops[j]? = some o) (s : St) : (stepOp E true ops base s j).eval = (resD E ops base j o s.slot s.ob).map fun p => Rg.go { s with slot := putO s.slot o.dst p.1, ob := updL s.ob p.2 } := by
  unfold stepOp resD guardV
  rw [ho]
  simp only
  cases hg : o.guard with
  | none => simp only; exact stepWith_eval o s j
  | some p =>
    obtain ⟨i, want⟩ := p
    simp only
    cases hd : (ops[i]?).bind (·.dst) with
    | none => rfl
    | some d =>
      simp only
      cases hs : s.slot d with
      | bool b =>
        simp only [Tr.eval]
        cases want <;> cases b <;> simp only [Bool.not_true, Bool.not_false, Tr.eval]
        · rw [upd_eq hs]; exact stepWith_eval o s j
        · rw [upd_eq hs]; rfl
        · rw [upd_eq hs]; rfl
        · rw [upd_eq hs]; exact stepWith_eval o s j
      | tup vs => cases vs <;> rfl
      | _ => rfl
theorem resD_congr {o : Oper} {j : Nat} {slot slot' : Nat → V} {ob ob' : Nat → Ob} (h1 : ∀ t ∈ opReads ops o, slot t = slot' t) (h2 : viewOf true ops base j o ob = viewOf true ops base j o ob') : resD E ops base j o slot ob = resD E ops base j o slot' ob' := by
  have hs : slotOf true ops o slot = slotOf true ops o slot' := by
    funext t
    show maskSlot (opReads ops o) slot t = maskSlot (opReads ops o) slot' t
    unfold maskSlot
    cases hc : (opReads ops o).contains t with
    | true => exact h1 t (by simpa using hc)
    | false => rfl
  have hg : guardV ops o slot = guardV ops o slot' := by
    unfold guardV
    cases hg : o.guard with
    | none => rfl
    | some p =>
      obtain ⟨i, want⟩ := p
      simp only
      cases hd : (ops[i]?).bind (·.dst) with
      | none => rfl
      | some d =>
        simp only
        rw [h1 d (by unfold opReads; rw [hg]; simp [hd])]
  unfold resD coreD
  rw [hg, hs, h2]
theorem resD_own {o : Oper} {j : Nat} {slot : Nat → V} {ob : Nat → Ob} {v : V} {u : Upd} (h : resD E ops base j o slot ob = some (v, u)) : ∀ p ∈ u, (base + 64 * j ≤ p.1 ∧ p.1 < base + 64 * j + 64) ∨ (loud E o = true ∧ blind o = false ∧ (viewOf true ops base j o ob p.1).alive = true) := by
  unfold resD at h
  split at h
  · cases h
  · simp only [Option.some.injEq, Prod.mk.injEq] at h
    intro p hp
    rw [← h.2] at hp
    cases hp
  · unfold coreD at h
    split at h
    · rename_i v' u' hq
      split at h
      · rename_i hok
        simp only [Option.some.injEq, Prod.mk.injEq] at h
        obtain ⟨rfl, rfl⟩ := h
        intro p hp
        have own : ∀ q : Nat × Ob, (Nat.ble (base + 64 * j) q.1 && Nat.blt q.1 (base + 64 * j + 64)) = true → base + 64 * j ≤ q.1 ∧ q.1 < base + 64 * j + 64 := fun q hq => by
          rw [Bool.and_eq_true] at hq
          exact ⟨Nat.le_of_ble_eq_true hq.1, Nat.le_of_ble_eq_true hq.2⟩
        unfold okU at hok
        rw [Bool.or_eq_true] at hok
        rcases hok with hok | hok
        · unfold ownU at hok
          rw [List.all_eq_true] at hok
          exact .inl (own p (hok p hp))
        · simp only [Bool.and_eq_true, List.all_eq_true, Bool.not_eq_true'] at hok
          have h1 := hok.2 p hp
          rw [Bool.or_eq_true] at h1
          rcases h1 with h1 | h1
          · exact .inl (own p h1)
          · exact .inr ⟨hok.1.1, hok.1.2, h1⟩
      · cases h
    · cases h

/-- What a masked view shows. -/
theorem mask_alive {p : List Nat} {h : Nat → Ob} {k : Nat} (ha : (maskOb base p h k).alive = true) : k < base ∨ (k - base) / 64 ∈ p := by
  unfold maskOb at ha
  split at ha
  · rename_i hc
    rw [Bool.or_eq_true] at hc
    rcases hc with hc | hc
    · exact .inl (Nat.le_of_ble_eq_true hc)
    · exact .inr (by simpa using hc)
  · cases ha
theorem mask_congr {p : List Nat} {h h' : Nat → Ob} (hh : ∀ k, (k < base ∨ (k - base) / 64 ∈ p) → h k = h' k) : maskOb base p h = maskOb base p h' := by
  funext k
  unfold maskOb
  cases hc : (Nat.blt k base || p.contains ((k - base) / 64)) with
  | false => rfl
  | true =>
    simp only
    apply hh
    rw [Bool.or_eq_true] at hc
    rcases hc with hc | hc
    · exact .inl (Nat.le_of_ble_eq_true hc)
    · exact .inr (by simpa using hc)
theorem view_same {o : Oper} {j k : Nat} {ob : Nat → Ob} {u : Upd} {ok : Oper} (hjk : k ∉ preds ops j) (hb : blind o = true ∨ (loud E ok = false ∨ blind ok = true))
    (hu : ∀ p ∈ u, (base + 64 * k ≤ p.1 ∧ p.1 < base + 64 * k + 64) ∨ (loud E ok = true ∧ blind ok = false ∧ (viewOf true ops base k ok ob p.1).alive = true)) :
    viewOf true ops base j o (updL ob u) = viewOf true ops base j o ob := by
  unfold viewOf
  cases hbl : blind o with
  | true => rfl
  | false =>
    simp only
    refine mask_congr (fun i hi => updL_not u ob i (fun p hp he => ?_))
    rcases hu p hp with h1 | ⟨h1, h2, _⟩
    · subst he
      rcases hi with hi | hi
      · omega
      · have : (p.1 - base) / 64 = k := by omega
        rw [this] at hi
        exact hjk hi
    · rcases hb with hb | hb | hb
      · rw [hbl] at hb; cases hb
      · rw [h1] at hb; cases hb
      · rw [h2] at hb; cases hb

theorem indep_spec {x y : Oper} (h : indep E ops x y = true) : (∀ d, x.dst = some d → d ∉ opReads ops y ∧ y.dst ≠ some d) ∧ (∀ d, y.dst = some d → d ∉ opReads ops x) ∧ ((loud E x = false ∧ loud E y = false) ∨ blind x = true ∨ blind y = true) := by
  unfold indep at h
  simp only [Bool.and_eq_true] at h
  obtain ⟨⟨h1, h2⟩, h3⟩ := h
  refine ⟨fun d hd => ?_, fun d hd => ?_, ?_⟩
  · rw [hd] at h1
    simp at h1
    exact ⟨by simpa using h1.1, by simpa using h1.2⟩
  · rw [hd] at h2
    simpa using h2
  · simp only [Bool.or_eq_true, Bool.and_eq_true, Bool.not_eq_true'] at h3
    rcases h3 with (h3 | h3) | h3
    · exact .inl h3
    · exact .inr (.inl h3)
    · exact .inr (.inr h3)

theorem step_comm {i y : Nat} {oi oy : Oper} (hi : ops[i]? = some oi) (hy : ops[y]? = some oy) (hne : y ≠ i) (h1 : y ∉ preds ops i) (h2 : i ∉ preds ops y) (hind : indep E ops oy oi = true) {s : St} {rest : List Nat} {x : Rg}
    (h : (stepOps E true ops base (y :: i :: rest) s).eval = some x) : (stepOps E true ops base (i :: y :: rest) s).eval = some x := by
  obtain ⟨d1, d2, d3⟩ := indep_spec hind
  rw [stepOps] at h
  obtain ⟨g1, e1, h⟩ := eval_bind h
  rw [stepOp_eval hy] at e1
  cases r1 : resD E ops base y oy s.slot s.ob with
  | none => rw [r1] at e1; cases e1
  | some p1 =>
    obtain ⟨v, u⟩ := p1
    rw [r1] at e1
    simp only [Option.map_some, Option.some.injEq] at e1
    subst e1
    simp only at h
    rw [stepOps] at h
    obtain ⟨g2, e2, h⟩ := eval_bind h
    rw [stepOp_eval hi] at e2
    cases r2 : resD E ops base i oi (putO s.slot oy.dst v) (updL s.ob u) with
    | none => simp only at e2; rw [r2] at e2; cases e2
    | some p2 =>
      obtain ⟨v2, u2⟩ := p2
      simp only at e2
      rw [r2] at e2
      simp only [Option.map_some, Option.some.injEq] at e2
      subst e2
      simp only at h
      have own1 := resD_own r1
      have r2' : resD E ops base i oi s.slot s.ob = some (v2, u2) := by
        rw [← r2]
        refine resD_congr (fun t ht => ?_) ?_
        · cases hd : oy.dst with
          | none => rfl
          | some d =>
            have hne : t ≠ d := fun he => (d1 d hd).1 (by rw [← he]; exact ht)
            exact (upd_other s.slot v hne).symm
        · refine (view_same (ok := oy) h1 ?_ own1).symm
          rcases d3 with d3 | d3 | d3
          · exact .inr (.inl d3.1)
          · exact .inr (.inr d3)
          · exact .inl d3
      have own2 := resD_own r2'
      have r1' : resD E ops base y oy (putO s.slot oi.dst v2) (updL s.ob u2) = some (v, u) := by
        rw [← r1]
        refine resD_congr (fun t ht => ?_) ?_
        · cases hd : oi.dst with
          | none => rfl
          | some d =>
            have hne : t ≠ d := fun he => d2 d hd (by rw [← he]; exact ht)
            exact upd_other s.slot v2 hne
        · refine view_same (ok := oi) h2 ?_ own2
          rcases d3 with d3 | d3 | d3
          · exact .inr (.inl d3.2)
          · exact .inl d3
          · exact .inr (.inr d3)
      have hdis : ∀ p ∈ u, ∀ q ∈ u2, p.1 ≠ q.1 := by
        have shown : ∀ (j : Nat) (o : Oper) (k : Nat), blind o = false → (viewOf true ops base j o s.ob k).alive = true → k < base ∨ (k - base) / 64 ∈ preds ops j := fun j o k hb ha => by
          unfold viewOf at ha
          rw [hb] at ha
          exact mask_alive ha
        intro p hp q hq he
        rcases own1 p hp with a1 | ⟨a1, a2, a3⟩ <;> rcases own2 q hq with b1 | ⟨b1, b2, b3⟩
        · omega
        · rcases shown i oi q.1 b2 b3 with c | c
          · omega
          · have : (q.1 - base) / 64 = y := by omega
            rw [this] at c
            exact h1 c
        · rcases shown y oy p.1 a2 a3 with c | c
          · omega
          · have : (p.1 - base) / 64 = i := by omega
            rw [this] at c
            exact h2 c
        · rcases d3 with d3 | d3 | d3
          · rw [d3.1] at a1; cases a1
          · rw [d3] at a2; cases a2
          · rw [d3] at b2; cases b2
      rw [stepOps]
      have f1 : (stepOp E true ops base s i).eval = some (Rg.go { s with slot := putO s.slot oi.dst v2, ob := updL s.ob u2 }) := by rw [stepOp_eval hi, r2']; rfl
      rw [bind_eval f1]
      simp only
      rw [stepOps]
      have f2 : (stepOp E true ops base { s with slot := putO s.slot oi.dst v2, ob := updL s.ob u2 } y).eval = some (Rg.go { s with slot := putO (putO s.slot oi.dst v2) oy.dst v, ob := updL (updL s.ob u2) u }) := by rw [stepOp_eval hy]; simp only; rw [r1']; rfl
      rw [bind_eval f2]
      simp only
      rw [putO_comm (fun d hd => (d1 d hd).2), updL_comm u u2 s.ob hdis] at h
      exact h
end
end Go.AH
