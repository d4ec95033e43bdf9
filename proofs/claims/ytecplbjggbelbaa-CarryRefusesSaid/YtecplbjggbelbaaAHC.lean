/- Whole regions. -/
import Derived.Test.YtecplbjggbelbaaAHB
namespace Go.AH
open Go Go.RowKit

section
variable {E : Env} {P : Program} {Z : Nat → Prop} {n : Nat} {ops : Array Oper} {base : Nat} {Q : Exit → Act → World → Prop}

def inR (base j i : Nat) : Prop := base + 64 * j ≤ i ∧ i < base + 64 * j + 64
/-- What a list of operations comes to. -/
def AfterL (E : Env) (Z : Nat → Prop) (n base : Nat) (s : St) (β : Nat → Loc) (w : World) (l : List Nat) (x : Rg) (Q : Exit → Act → World → Prop) : Prop :=
  (∀ s' β' a' w', x = .go s' → Rel E Z n s' β' a' w' → Stp s.ob β w s'.ob β' w' → (∀ i, s.ob i = .dead → (∀ j ∈ l, ¬ inR base j i) → s'.ob i = .dead) → s'.next = s.next → Q .normal a' w') ∧
  (∀ v s' β' a' w' y, x = .pan v s' → v.noRef = true → Rel E Z n s' β' a' w' → Stp s.ob β w s'.ob β' w' → Rep E.ty w' (Own Z s'.ob β') v noR y → (∀ i, s.ob i = .dead → (∀ j ∈ l, ¬ inR base j i) → s'.ob i = .dead) → s'.next = s.next → Q (.panic [{ v := y, recovered := false }]) a' w')
theorem touch_dead {h h' : Nat → Ob} {j i : Nat} (ht : Touch h h' (base + 64 * j)) (hd : h i = .dead) (hi : ¬ inR base j i) : h' i = .dead := by
  by_cases he : h' i = h i
  · rw [he]; exact hd
  · rcases ht i he with h1 | h1
    · rw [hd] at h1; cases h1
    · exact absurd h1 hi
theorem inR_disj {j k i : Nat} (h1 : inR base j i) (h2 : inR base k i) : j = k := by unfold inR at h1 h2; omega

theorem ops_sound (hT : TyOk P E.ty) (hC : ∀ g, Holds E.ty E.glob P g (E.C g)) {draw : Bool} (hd : ∀ (i : Nat) (t : Tmp), (ops[i]?).bind (fun o : Oper => o.dst) = some t → t < n) :
    ∀ (l : List Nat) (s : St) (β : Nat → Loc) (a : Act) (w : World) (x : Rg), Rel E Z n s β a w → l.Nodup → (∀ j ∈ l, ∀ i, inR base j i → s.ob i = .dead) → (stepOps E draw ops.toList base l s).eval = some x → AfterL E Z n base s β w l x Q → wpOps P ops Q l a w
  | [], s, β, a, w, x, r, _, _, he, hA => by
    simp only [stepOps, Tr.eval, Option.some.injEq] at he
    exact hA.1 s β a w he.symm r Stp.refl (fun i hi _ => hi) rfl
  | j :: l, s, β, a, w, x, r, hnd, hdead, he, hA => by
    rw [stepOps] at he
    obtain ⟨x1, h1, h2⟩ := eval_bind he
    rw [wpOps_cons]
    rw [List.nodup_cons] at hnd
    refine stepOp_sound hT hC r hd (fun i h3 h4 => hdead j (by simp) i ⟨h3, h4⟩) h1 ⟨fun s1 β1 a1 w1 hx r1 st1 t1 n1 => ?_, fun v s1 β1 w1 y hx hnr r1 st1 hy t1 n1 => ?_⟩
    · subst hx
      simp only at h2
      refine ops_sound hT hC hd l s1 β1 a1 w1 x r1 hnd.2 (fun k hk i hi => touch_dead t1 (hdead k (by simp [hk]) i hi) (fun hj => hnd.1 (by rw [inR_disj hj hi]; exact hk))) h2 ⟨fun s' β' a' w' hx r' st' d' n' => ?_, fun v s' β' a' w' y hx hnr r' st' hy d' n' => ?_⟩
      · exact hA.1 s' β' a' w' hx r' (st1.trans st') (fun i hi hj => d' i (touch_dead t1 hi (hj j (by simp))) (fun k hk => hj k (by simp [hk]))) (n'.trans n1)
      · exact hA.2 v s' β' a' w' y hx hnr r' (st1.trans st') hy (fun i hi hj => d' i (touch_dead t1 hi (hj j (by simp))) (fun k hk => hj k (by simp [hk]))) (n'.trans n1)
    · subst hx
      simp only [Tr.eval, Option.some.injEq] at h2
      exact hA.2 v s1 β1 a w1 y h2.symm hnr r1 st1 hy (fun i hi hj => touch_dead t1 hi (hj j (by simp))) n1

/- Drawn orders. -/
theorem predsGo_all (ol : List Oper) (Pr : Nat → Prop) (hstep : ∀ x o, Pr x → ol[x]? = some o → ∀ e ∈ o.after.toList, Region.binds .any e = true → Pr e.on) :
    ∀ (f : Nat) (seen : List Nat) (k : Nat), (∀ x ∈ seen, Pr x) → ∀ x ∈ predsGo ol f seen k, Pr x
  | 0, seen, k, h, x, hx => h x hx
  | f + 1, seen, k, h, x, hx => by
    unfold predsGo at hx
    split at hx
    · exact h x hx
    · rename_i i hi
      refine predsGo_all ol Pr hstep f _ _ (fun y hy => ?_) x hx
      have mem : ∀ (l seen : List Nat) (y : Nat), y ∈ addNew seen l → y ∈ seen ∨ y ∈ l := by
        intro l
        induction l with
        | nil => intro seen y hy; exact .inl hy
        | cons a l ih =>
          intro seen y hy
          unfold addNew at hy
          split at hy
          · rcases ih seen y hy with h | h
            · exact .inl h
            · exact .inr (by simp [h])
          · rcases ih _ y hy with h | h
            · rcases List.mem_append.1 h with h | h
              · exact .inl h
              · exact .inr (by simp at h; simp [h])
            · exact .inr (by simp [h])
      rcases mem _ _ y hy with h1 | h1
      · exact h y h1
      · cases ho : ol[i]? with
        | none => rw [ho] at h1; simp at h1
        | some o =>
          rw [ho] at h1
          simp only [Option.map_some, Option.getD_some, List.mem_map, List.mem_filter] at h1
          obtain ⟨e, ⟨he, hb⟩, rfl⟩ := h1
          exact hstep i o (h i (List.mem_of_getElem? hi)) ho e he hb
theorem preds_all (ol : List Oper) (Pr : Nat → Prop) (hstep : ∀ x o, Pr x → ol[x]? = some o → ∀ e ∈ o.after.toList, Region.binds .any e = true → Pr e.on) {i : Nat} (hi : Pr i) : ∀ x ∈ preds ol i, Pr x :=
  predsGo_all ol Pr hstep _ [i] 0 (by simpa using hi)

theorem front {base : Nat} {ol : List Oper} {i : Nat} {oi : Oper} (hi : ol[i]? = some oi) (B : List Nat) {x : Rg} :
    ∀ (A : List Nat) (s : St), (∀ y ∈ A, y ≠ i ∧ y ∉ preds ol i ∧ i ∉ preds ol y ∧ ∃ oy, ol[y]? = some oy ∧ indep E ol oy oi = true) → (stepOps E true ol base (A ++ i :: B) s).eval = some x → (stepOps E true ol base (i :: (A ++ B)) s).eval = some x
  | [], s, _, h => h
  | y :: A, s, hA, h => by
    obtain ⟨h1, h2, h3, oy, h4, h5⟩ := hA y (by simp)
    rw [List.cons_append, stepOps] at h
    obtain ⟨g, e1, e2⟩ := eval_bind h
    have key : (stepOps E true ol base (y :: i :: (A ++ B)) s).eval = some x := by
      rw [stepOps, bind_eval e1]
      cases g with
      | go s1 => exact front hi B A s1 (fun z hz => hA z (by simp [hz])) e2
      | pan v s1 => exact e2
    exact step_comm hi h4 h1 h2 h3 h5 key

theorem rankedBy_spec {m : Region.Mode} {ol : List Oper} {r : List Nat} (h : rankedBy m ol r = true) : ∀ (j : Nat) (o : Oper), ol[j]? = some o → ∀ e ∈ o.after.toList, Region.binds m e = true → r.getD e.on 0 < r.getD j 0 ∧ e.on < ol.length := by
  intro j o ho e he hb
  unfold rankedBy at h
  rw [List.all_eq_true] at h
  have h1 := h j (by simpa using (List.getElem?_eq_some_iff.1 ho).1)
  rw [ho] at h1
  simp only [Option.map_some, Option.getD_some, List.all_eq_true] at h1
  have h2 := h1 e he
  rw [hb] at h2
  simp only [Bool.not_true, Bool.false_or, Bool.and_eq_true] at h2
  exact ⟨Nat.le_of_ble_eq_true h2.1, Nat.le_of_ble_eq_true h2.2⟩
theorem ranked_spec {m : Region.Mode} {ol : List Oper} (h : ranked m ol = true) : ∃ ρ : Nat → Nat, ∀ (j : Nat) (o : Oper), ol[j]? = some o → ∀ e ∈ o.after.toList, Region.binds m e = true → ρ e.on < ρ j ∧ e.on < ol.length := by
  unfold ranked at h
  rw [Bool.or_eq_true] at h
  rcases h with h | h
  · exact ⟨fun j => (rankIter m ol 8 []).getD j 0, rankedBy_spec h⟩
  · exact ⟨fun j => (rankIter m ol 24 []).getD j 0, rankedBy_spec h⟩
theorem binds_any {m : Region.Mode} {e : Edge} (h : Region.binds .any e = true) : Region.binds m e = true := by
  unfold Region.binds at *
  split at h <;> simp_all
  all_goals first | (exact absurd h (by decide)) | rfl
theorem order_spec {ol : List Oper} (h : orderOk ol = true) (md : Region.Mode) : (∀ (j : Nat) (o : Oper), ol[j]? = some o → ∀ e ∈ o.after.toList, Region.binds .any e = true → e.on < j) ∧
    ∃ ρ : Nat → Nat, ∀ (j : Nat) (o : Oper), ol[j]? = some o → ∀ e ∈ o.after.toList, Region.binds md e = true → ρ e.on < ρ j ∧ e.on < ol.length := by
  unfold orderOk at h
  rw [Bool.or_eq_true, Bool.and_eq_true, Bool.and_eq_true] at h
  rcases h with h | ⟨⟨h1, h2⟩, h3⟩
  · have hb : ∀ (j : Nat) (o : Oper), ol[j]? = some o → ∀ e ∈ o.after.toList, e.on < j := by
      intro j o ho e he
      unfold backward at h
      rw [List.all_eq_true] at h
      have h1 := h j (by simpa using (List.getElem?_eq_some_iff.1 ho).1)
      rw [ho] at h1
      simp only [Option.map_some, Option.getD_some] at h1
      rw [← Array.all_toList, List.all_eq_true] at h1
      exact Nat.le_of_ble_eq_true (h1 e he)
    exact ⟨fun j o ho e he _ => hb j o ho e he, id, fun j o ho e he _ => ⟨hb j o ho e he, Nat.lt_trans (hb j o ho e he) (List.getElem?_eq_some_iff.1 ho).1⟩⟩
  · refine ⟨fun j o ho e he hb => ?_, ?_⟩
    · unfold backAny at h1
      rw [List.all_eq_true] at h1
      have h4 := h1 j (by simpa using (List.getElem?_eq_some_iff.1 ho).1)
      rw [ho] at h4
      simp only [Option.map_some, Option.getD_some, List.all_eq_true] at h4
      have h5 := h4 e he
      rw [hb] at h5
      simp only [Bool.not_true, Bool.false_or] at h5
      exact Nat.le_of_ble_eq_true h5
    · cases md with
      | text => exact ranked_spec h2
      | gc => exact ranked_spec h3
      | any =>
        obtain ⟨ρ, hρ⟩ := ranked_spec h2
        exact ⟨ρ, fun j o ho e he hb => hρ j o ho e he (binds_any hb)⟩
theorem min_rank (ρ : Nat → Nat) : ∀ (l : List Nat), l ≠ [] → ∃ i ∈ l, ∀ k ∈ l, ρ i ≤ ρ k
  | [], h => absurd rfl h
  | [a], _ => ⟨a, by simp, by simp⟩
  | a :: b :: l, _ => by
    obtain ⟨i, hi, h⟩ := min_rank ρ (b :: l) (by simp)
    by_cases hc : ρ a ≤ ρ i
    · exact ⟨a, by simp, fun k hk => by
        rcases List.mem_cons.1 hk with rfl | hk
        · exact Nat.le_refl _
        · exact Nat.le_trans hc (h k hk)⟩
    · exact ⟨i, List.mem_cons_of_mem _ hi, fun k hk => by
        rcases List.mem_cons.1 hk with rfl | hk
        · omega
        · exact h k hk⟩
theorem any_sound (hT : TyOk P E.ty) (hC : ∀ g, Holds E.ty E.glob P g (E.C g)) (hd : ∀ (i : Nat) (t : Tmp), (ops[i]?).bind (fun o : Oper => o.dst) = some t → t < n) (hok : regionOk E ops.toList = true) (md : Region.Mode) :
    ∀ (f : Nat) (listed : Array Bool) (s : St) (β : Nat → Loc) (a : Act) (w : World) (x : Rg), Rel E Z n s β a w → listed.size = ops.size →
      (∀ i o, ops[i]? = some o → listed.getD i true = true → ∀ e ∈ o.after.toList, Region.binds .any e = true → listed.getD e.on false = true) →
      ((List.range ops.size).filter fun i => !listed.getD i true).length ≤ f →
      (∀ j ∈ (List.range ops.size).filter (fun i => !listed.getD i true), ∀ i, inR base j i → s.ob i = .dead) →
      (stepOps E true ops.toList base ((List.range ops.size).filter fun i => !listed.getD i true) s).eval = some x →
      (∀ s' β' a' w', x = .go s' → Rel E Z n s' β' a' w' → Stp s.ob β w s'.ob β' w' → (∀ i, s.ob i = .dead → (∀ j, j < ops.size → ¬ inR base j i) → s'.ob i = .dead) → s'.next = s.next → Q .normal a' w') →
      wpAny P md ops Q f listed a w := by
  unfold regionOk at hok
  rw [Bool.and_eq_true] at hok
  obtain ⟨hback, hpairs⟩ := hok
  obtain ⟨hback2, ρ, hρ2⟩ := order_spec hback md
  have hback' : ∀ (j : Nat) (o : Oper), ops[j]? = some o → ∀ e ∈ o.after.toList, Region.binds .any e = true → e.on < j := fun j o ho => hback2 j o (by rw [Array.getElem?_toList]; exact ho)
  have hρ : ∀ (j : Nat) (o : Oper), ops[j]? = some o → ∀ e ∈ o.after.toList, Region.binds md e = true → ρ e.on < ρ j ∧ e.on < ops.size := fun j o ho e he hb => by
    have := hρ2 j o (by rw [Array.getElem?_toList]; exact ho) e he hb
    simpa using this
  have hpairs' : ∀ (i j : Nat) (oi oj : Oper), i < j → ops[i]? = some oi → ops[j]? = some oj → i ∈ preds ops.toList j ∨ indep E ops.toList oi oj = true := by
    intro i j oi oj hij hi hj
    unfold allPairs at hpairs
    rw [List.all_eq_true] at hpairs
    have hjl := (Array.getElem?_eq_some_iff.1 hj).1
    have h1 := hpairs j (by simpa using hjl)
    rw [List.all_eq_true] at h1
    have h2 := h1 i (by simpa using hij)
    simp only [Array.getElem?_toList, hi, hj] at h2
    rw [Bool.or_eq_true] at h2
    rcases h2 with h2 | h2
    · exact .inl (by simpa using h2)
    · exact .inr h2
  have hself : ∀ (y : Nat), ∀ x ∈ preds ops.toList y, x ≤ y := fun y => preds_all ops.toList (fun x => x ≤ y) (fun x o hx ho e he hb => by
    rw [Array.getElem?_toList] at ho
    have := hback' x o ho e he hb
    omega) (Nat.le_refl _)
  intro f
  induction f with
  | zero =>
    intro listed s β a w x r _ _ hf _ he hQ
    have hnil := List.eq_nil_of_length_eq_zero (Nat.le_zero.1 hf)
    refine ⟨?_, ?_⟩
    · unfold Region.ready
      rw [List.filter_eq_nil_iff] at hnil ⊢
      intro i hi hc
      rw [Bool.and_eq_true] at hc
      exact hnil i hi hc.1
    · rw [hnil] at he
      simp only [stepOps, Tr.eval, Option.some.injEq] at he
      exact hQ s β a w he.symm r Stp.refl (fun i hi _ => hi) rfl
  | succ f ih =>
    intro listed s β a w x r hsz hcl hf hdead he hQ
    refine ⟨fun hready => ?_, fun i hi => ?_⟩
    · -- nothing is ready: nothing is left
      cases hR : (List.range ops.size).filter (fun i => !listed.getD i true) with
      | nil =>
        rw [hR] at he
        simp only [stepOps, Tr.eval, Option.some.injEq] at he
        exact hQ s β a w he.symm r Stp.refl (fun i hi _ => hi) rfl
      | cons i0 R0 =>
        exfalso
        obtain ⟨i, hi, hmin⟩ := min_rank ρ ((List.range ops.size).filter (fun i => !listed.getD i true)) (by rw [hR]; simp)
        rw [List.mem_filter] at hi
        have hil : i < ops.size := by simpa using hi.1
        have hnot : i ∉ Region.ready md ops listed := by rw [hready]; simp
        refine hnot ?_
        unfold Region.ready
        rw [List.mem_filter]
        refine ⟨hi.1, ?_⟩
        rw [Bool.and_eq_true]
        refine ⟨hi.2, ?_⟩
        rw [Array.getElem?_eq_getElem hil]
        simp only [Option.map_some, Option.getD_some]
        rw [← Array.all_toList, List.all_eq_true]
        intro e he2
        cases hb : Region.binds md e with
        | false => simp
        | true =>
          obtain ⟨g1, g2⟩ := hρ i _ (Array.getElem?_eq_getElem hil) e he2 hb
          have h1 : listed.getD e.on true = true := by
            cases hq : listed.getD e.on true with
            | true => rfl
            | false =>
              have := hmin e.on (List.mem_filter.2 ⟨by simpa using g2, by rw [hq]; rfl⟩)
              omega
          have : listed.getD e.on false = true := by
            have hl : e.on < listed.size := by omega
            simp [Array.getD_eq_getD_getElem?, hl] at h1 ⊢
            exact h1
          rw [this]
          simp
    · unfold Region.ready at hi
      rw [List.mem_filter, Bool.and_eq_true] at hi
      obtain ⟨hir, hiu, hia⟩ := hi
      have hil : i < ops.size := by simpa using hir
      obtain ⟨oi, hoi⟩ : ∃ oi, ops[i]? = some oi := ⟨_, Array.getElem?_eq_getElem hil⟩
      rw [hoi] at hia
      simp only [Option.map_some, Option.getD_some] at hia
      rw [← Array.all_toList, List.all_eq_true] at hia
      have hany : ∀ e ∈ oi.after.toList, Region.binds .any e = true → listed.getD e.on false = true := by
        intro e he2 hb
        have h1 := hia e he2
        rw [Bool.or_eq_true] at h1
        rcases h1 with h1 | h1
        · have : Region.binds md e = true := by
            unfold Region.binds at hb ⊢
            split at hb <;> simp_all
            all_goals first | (exact absurd hb (by decide)) | rfl
          rw [this] at h1
          cases h1
        · exact h1
      obtain ⟨A, B, hAB⟩ := List.append_of_mem (List.mem_filter.2 ⟨hir, hiu⟩ : i ∈ (List.range ops.size).filter (fun i => !listed.getD i true))
      have hpw : ((List.range ops.size).filter (fun i => !listed.getD i true)).Pairwise (· < ·) := List.pairwise_lt_range.filter _
      have hndR : ((List.range ops.size).filter (fun i => !listed.getD i true)).Nodup := List.nodup_range.filter _
      have hlistedOf : ∀ k, k < ops.size → listed.getD k false = listed.getD k true := fun k hk => by
        have hl : k < listed.size := by omega
        simp [Array.getD_eq_getD_getElem?, hl]
      have hmem : ∀ y ∈ A, y < i ∧ y < ops.size ∧ listed.getD y true = false := by
        intro y hy
        have hym : y ∈ (List.range ops.size).filter (fun i => !listed.getD i true) := by rw [hAB]; simp [hy]
        rw [List.mem_filter] at hym
        rw [hAB] at hpw
        refine ⟨(List.pairwise_append.1 hpw).2.2 y hy i (by simp), by simpa using hym.1, by simpa using hym.2⟩
      have hpi : ∀ y, y ∈ preds ops.toList i → y = i ∨ listed.getD y false = true := by
        refine preds_all ops.toList (fun y => y = i ∨ listed.getD y false = true) (fun y o hy ho e he2 hb => ?_) (.inl rfl)
        rw [Array.getElem?_toList] at ho
        rcases hy with rfl | hy
        · rw [hoi] at ho
          simp at ho
          subst ho
          exact .inr (hany e he2 hb)
        · have hyl := (Array.getElem?_eq_some_iff.1 ho).1
          exact .inr (hcl y o ho (by rw [← hlistedOf y hyl]; exact hy) e he2 hb)
      have hfront := front (E := E) (base := base) (ol := ops.toList) (i := i) (oi := oi) (by rw [Array.getElem?_toList]; exact hoi) B A s (x := x) (fun y hy => by
        obtain ⟨h1, h2, h3⟩ := hmem y hy
        have hny : y ∉ preds ops.toList i := fun hc => by
          rcases hpi y hc with h4 | h4
          · omega
          · rw [hlistedOf y h2, h3] at h4; cases h4
        obtain ⟨oy, hoy⟩ : ∃ oy, ops[y]? = some oy := ⟨_, Array.getElem?_eq_getElem h2⟩
        refine ⟨by omega, hny, fun hc => by have := hself y i hc; omega, oy, by rw [Array.getElem?_toList]; exact hoy, ?_⟩
        exact (hpairs' y i oy oi h1 hoy hoi).resolve_left hny) (by rw [← hAB]; exact he)
      have hset : ∀ k, (listed.setIfInBounds i true).getD k true = (if k = i then true else listed.getD k true) := by
        intro k
        simp only [Array.getD_eq_getD_getElem?, Array.getElem?_setIfInBounds]
        by_cases hk : k = i
        · subst hk; simp [hsz, hil]
        · rw [if_neg (Ne.symm hk), if_neg hk]
      have hset2 : ∀ k, listed.getD k false = true → (listed.setIfInBounds i true).getD k false = true := by
        intro k hk
        simp only [Array.getD_eq_getD_getElem?, Array.getElem?_setIfInBounds] at hk ⊢
        by_cases hk2 : i = k
        · subst hk2; simp [hsz, hil]
        · rw [if_neg hk2]; exact hk
      have hR' : (List.range ops.size).filter (fun k => !(listed.setIfInBounds i true).getD k true) = A ++ B := by
        have h1 : (List.range ops.size).filter (fun k => !(listed.setIfInBounds i true).getD k true) = ((List.range ops.size).filter (fun k => !listed.getD k true)).filter (fun k => decide (k ≠ i)) := by
          rw [List.filter_filter]
          apply List.filter_congr
          intro k _
          rw [hset]
          by_cases hk : k = i <;> simp [hk]
        rw [h1, hAB, List.filter_append, List.filter_cons]
        rw [hAB] at hndR
        rw [List.nodup_append, List.nodup_cons] at hndR
        have hA2 : A.filter (fun k => decide (k ≠ i)) = A := by
          rw [List.filter_eq_self]
          intro k hk
          have := hndR.2.2 k hk i (by simp)
          simpa using this
        have hB2 : B.filter (fun k => decide (k ≠ i)) = B := by
          rw [List.filter_eq_self]
          intro k hk
          have hne : k ≠ i := fun he => hndR.2.1.1 (by rw [← he]; exact hk)
          simpa using hne
        rw [hA2, hB2]
        simp
      rw [stepOps] at hfront
      obtain ⟨x1, e1, e2⟩ := eval_bind hfront
      refine stepOp_sound hT hC r hd (fun k h3 h4 => hdead i (List.mem_filter.2 ⟨hir, hiu⟩) k ⟨h3, h4⟩) e1 ⟨fun s1 β1 a1 w1 hx r1 st1 t1 n1 => ?_, fun v s1 β1 w1 y hx hnr r1 st1 hy t1 n1 => ?_⟩
      · subst hx
        simp only at e2
        refine ih (listed.setIfInBounds i true) s1 β1 a1 w1 x r1 (by simpa using hsz) (fun k o ho hk e he2 hb => ?_) ?_ ?_ (by rw [hR']; exact e2) (fun s' β' a' w' hx r' st' d' n' => ?_)
        · rw [hset] at hk
          by_cases hki : k = i
          · subst hki
            rw [hoi] at ho
            simp at ho
            subst ho
            exact hset2 _ (hany e he2 hb)
          · rw [if_neg hki] at hk
            exact hset2 _ (hcl k o ho hk e he2 hb)
        · rw [hR']
          rw [hAB] at hf
          simp only [List.length_append, List.length_cons] at hf ⊢
          omega
        · intro j hj k hk
          rw [hR'] at hj
          have hjm : j ∈ (List.range ops.size).filter (fun i => !listed.getD i true) := by
            rw [hAB]
            rcases List.mem_append.1 hj with h | h
            · simp [h]
            · simp [h]
          refine touch_dead t1 (hdead j hjm k hk) (fun hc => ?_)
          have := inR_disj hc hk
          subst this
          rw [hAB, List.nodup_append, List.nodup_cons] at hndR
          rcases List.mem_append.1 hj with h | h
          · exact hndR.2.2 _ h _ (by simp) rfl
          · exact hndR.2.1.1 h
        · exact hQ s' β' a' w' hx r' (st1.trans st') (fun k hk hj => d' k (touch_dead t1 hk (hj i hil)) hj) (n'.trans n1)
      · subst hx
        exfalso
        rw [stepOp_eval (by rw [Array.getElem?_toList]; exact hoi)] at e1
        cases hq : resD E ops.toList base i oi s.slot s.ob with
        | none => rw [hq] at e1; cases e1
        | some p => rw [hq] at e1; simp at e1
end
end Go.AH
