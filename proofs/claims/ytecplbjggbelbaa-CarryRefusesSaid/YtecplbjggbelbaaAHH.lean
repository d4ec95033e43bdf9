/- A function, from its begin to its end. -/
import Derived.Test.YtecplbjggbelbaaAHF
namespace Go.AH
open Go Go.RowKit

section
variable {E : Env} {P : Program} {Z : Nat → Prop} {n m : Nat} {s : St} {β : Nat → Loc} {w : World} {a : Act}

/-- The loops in a text. -/
def loopsIn : Code → List Code
  | .seq a b => loopsIn a ++ loopsIn b
  | .cond _ a b => loopsIn a ++ loopsIn b
  | .block _ b => loopsIn b
  | .loop b => b :: loopsIn b
  | _ => []
theorem loops_of : ∀ (c : Code), (∀ b ∈ loopsIn c, LoopLaw E m b) → Loops E m c
  | .seq a b, h => ⟨loops_of a (fun x hx => h x (List.mem_append.2 (.inl hx))), loops_of b (fun x hx => h x (List.mem_append.2 (.inr hx)))⟩
  | .cond _ a b, h => ⟨loops_of a (fun x hx => h x (List.mem_append.2 (.inl hx))), loops_of b (fun x hx => h x (List.mem_append.2 (.inr hx)))⟩
  | .block _ b, h => loops_of b h
  | .loop b, h => ⟨h b (by simp [loopsIn]), loops_of b (fun x hx => h x (by simp [loopsIn, hx]))⟩
  | .skip, _ => trivial
  | .region _ _ _, _ => trivial
  | .rangeFunc _ _ _ _, _ => trivial
  | .exit _, _ => trivial
  | .scope _, _ => trivial
  | .label _, _ => trivial
  | .goto _, _ => trivial
  | .ret, _ => trivial
  | .refuse _, _ => trivial
theorem loops_none {c : Code} (h : loopsIn c = []) : Loops E m c := loops_of c (by rw [h]; simp)
theorem loops_one {c b : Code} (h : loopsIn c = [b]) (hb : LoopLaw E m b) : Loops E m c := loops_of c (by rw [h]; simpa using hb)

theorem dstOk_mono {k n : Nat} (hk : k ≤ n) {ops : Array Oper} (h : dstOk k ops = true) : dstOk n ops = true := by
  unfold dstOk at *
  rw [List.all_eq_true] at *
  intro o ho
  have h1 := h o ho
  split
  · rename_i d hd
    rw [hd] at h1
    exact Nat.ble_eq_true_of_le (Nat.le_trans (Nat.le_of_ble_eq_true h1) hk)
  · rfl
theorem codeOk_mono {k n : Nat} (hk : k ≤ n) : ∀ (c : Code), codeOk k c = true → codeOk n c = true
  | .region _ ops _, h => dstOk_mono hk h
  | .seq a b, h => by
    rw [codeOk, Bool.and_eq_true] at *
    exact ⟨codeOk_mono hk a h.1, codeOk_mono hk b h.2⟩
  | .cond _ a b, h => by
    rw [codeOk, Bool.and_eq_true] at *
    exact ⟨codeOk_mono hk a h.1, codeOk_mono hk b h.2⟩
  | .block _ b, h => codeOk_mono hk b h
  | .loop b, h => codeOk_mono hk b h
  | .skip, _ => rfl
  | .rangeFunc _ _ _ _, _ => rfl
  | .exit _, _ => rfl
  | .scope _, _ => rfl
  | .label _, _ => rfl
  | .goto _, _ => rfl
  | .ret, _ => rfl
  | .refuse _, _ => rfl

/-- What a result variable holds. -/
def resSem (tmps : Array Value) : ResultVar → Sem Value
  | .tmp t => pure (tmps.getD t undef)
  | .cell a t => do loadVar t (← asAddr (tmps.getD a undef))
theorem res_one (hT : TyOk P E.ty) (r : Rel E Z n s β a w) {x : ResultVar} {v : V} (he : resOf E s x = some v) : ∃ y, (resSem a.tmps x).run P w = .ok y w ∧ Rep E.ty w (Own Z s.ob β) v (RefRep E.ty s.ob β) y := by
  cases x with
  | tmp t =>
    simp only [resOf, Option.some.injEq] at he
    subst he
    exact ⟨_, rfl, r.slots t⟩
  | cell t ty =>
    simp only [resOf] at he
    split at he
    · rename_i cs hcs
      split at he
      · rename_i hc
        rw [Bool.and_eq_true] at hc
        obtain ⟨b, o, l, hx, hl, hr⟩ := cellsAt_sound hT r.cx (fun i => .inr rfl) (r.slots t) hcs
        have hle := Nat.le_of_ble_eq_true hc.2
        have row := hT.row hc.1
        have hlen := hr.length
        have hx' : a.tmps.getD t undef = .pointer (some ⟨b, o, none⟩) := hx
        cases ha : (E.ty ty).agg with
        | true =>
          rw [ha] at he
          simp only [Option.some.injEq] at he
          subst he
          have hl2 : (l.take (E.ty ty).size).length = (E.ty ty).size := by simp; omega
          have hc2 := run_loadCells_list (P := P) w ⟨b, o, none⟩ (l.take (E.ty ty).size) (fun j v hj => by rw [Addr.add_lit]; exact hl.take _ j v hj)
          rw [hl2] at hc2
          refine ⟨.agg (l.take (E.ty ty).size).toArray, ?_, ⟨_, rfl, by simpa using hr.take _⟩⟩
          simp [resSem, hx', asAddr, loadVar, row.agg, ha, row.size, hc2]
        | false =>
          rw [ha] at he
          simp only at he
          cases cs with
          | nil => cases he
          | cons u cs =>
            simp at he
            subst he
            obtain ⟨y, rest, rfl, h1, _⟩ := hr
            have := hl 0 y rfl
            rw [Nat.add_zero] at this
            refine ⟨y, ?_, h1⟩
            simp [resSem, hx', asAddr, loadVar, row.agg, ha, this]
      · cases he
    · cases he
theorem res_list (hT : TyOk P E.ty) (r : Rel E Z n s β a w) : ∀ (l : List ResultVar) (vs : List V), allSome (l.map (resOf E s)) = some vs → ∃ ys, (l.mapM (resSem a.tmps)).run P w = .ok ys w ∧ RepL E.ty w (Own Z s.ob β) vs (RefRep E.ty s.ob β) ys
  | [], vs, h => by
    simp [allSome] at h
    subst h
    exact ⟨[], rfl, rfl⟩
  | x :: l, vs, h => by
    rw [List.map_cons] at h
    cases hx : resOf E s x with
    | none => rw [hx] at h; cases h
    | some v =>
      rw [hx] at h
      simp only [allSome] at h
      cases hl : allSome (l.map (resOf E s)) with
      | none => rw [hl] at h; cases h
      | some us =>
        rw [hl] at h
        simp at h
        subst h
        obtain ⟨y, h1, h2⟩ := res_one hT r hx
        obtain ⟨ys, h3, h4⟩ := res_list hT r l us hl
        exact ⟨y :: ys, by simp [List.mapM_cons, h1, h3], ⟨y, ys, rfl, h2, h4⟩⟩
def packRes : List V → V
  | [v] => v
  | vs => .tup vs
theorem res_sound (hT : TyOk P E.ty) (r : Rel E Z n s β a w) {fn : Func} {vs : List V} (h : allSome (fn.results.toList.map (resOf E s)) = some vs) :
    ∃ x, (results fn a.tmps).run P w = .ok x w ∧ Rep E.ty w (Own Z s.ob β) (packRes vs) (RefRep E.ty s.ob β) x := by
  obtain ⟨ys, h1, h2⟩ := res_list hT r _ _ h
  have h3 : (fn.results.mapM (resSem a.tmps)).run P w = .ok ys.toArray w := by
    rw [Array.mapM_eq_mapM_toList]
    simp [h1]
  have h4 : results fn a.tmps = (do
      let vs ← fn.results.mapM (resSem a.tmps)
      pure (if h : vs.size = 1 then vs[0] else .tuple vs)) := by
    unfold results
    congr 1
  rw [h4]
  simp only [Sem.run_bind, h3, Result.andThen_ok, Sem.run_pure]
  refine ⟨_, rfl, ?_⟩
  have hl := h2.length
  match vs, ys, h2, hl with
  | [v], [y], h2, _ =>
    obtain ⟨y', r', e, h5, _⟩ := h2
    simp only [List.cons.injEq] at e
    obtain ⟨rfl, rfl⟩ := e
    exact h5
  | [], [], h2, _ => exact ⟨_, rfl, h2⟩
  | v :: u :: vs, y :: z :: ys, h2, _ => exact ⟨_, rfl, h2⟩

abbrev Model := List V → List Ob → Tr Out
/-- The models that are there. -/
def lookM : List (FuncId × Model) → FuncId → Model
  | [], _ => fun _ _ => .fail
  | (g, m) :: r, f => (match Nat.beq f g with | true => m | false => lookM r f)
theorem lookM_holds {T : TypeId → Ty} {G : Nat → V} : ∀ (l : List (FuncId × Model)), (∀ p ∈ l, Holds T G P p.1 p.2) → ∀ g, Holds T G P g (lookM l g)
  | [], _, g => fun args objs out h => by simp [lookM, Tr.eval] at h
  | (f, m) :: r, h, g => by
    unfold lookM
    split
    · rename_i hb
      rw [nat_of_beq hb]
      exact h (f, m) (by simp)
    · exact lookM_holds r (fun p hp => h p (by simp [hp])) g
theorem genE_zero (i g : Nat) (hi : i < m) (h : genE m i g = 0) : g = 0 := by
  unfold genE at h
  have : Nat.blt i m = true := Nat.ble_eq_true_of_le hi
  rw [this] at h
  exact h
theorem begin_slot : ∀ (args : List V) (t : Nat), begin0.hOfV args t = args.getD t .top
  | [], t => by simp [begin0.hOfV]
  | v :: r, 0 => by simp [begin0.hOfV]
  | v :: r, t + 1 => by simp [begin0.hOfV, begin_slot r t]
theorem fn_sound (hT : TyOk P E.ty) (hC : ∀ g, Holds E.ty E.glob P g (E.C g)) {f : FuncId} {fn : Func} {c : Code} (hf : P.funcs[f]? = some fn) (hname : (fn.name == "runtime.NumGoroutine") = false) (hb : fn.body = some c) (hcode : codeOk fn.ntmps c = true)
    (own : Bool) (C : List V → List Ob → Tr Out) (hlaw : ∀ args objs out, (C args objs).eval = some out → Loops E objs.length c ∧ (runF E own fn args objs).eval = some out) : Holds E.ty E.glob P f C := by
  intro args objs out hout hgen Z β w cargs cx hargs
  obtain ⟨hloops, hrun⟩ := hlaw args objs out hout
  have h1 : fn.name ≠ "runtime.NumGoroutine" := by simpa using hname
  refine .inl ⟨by simp [callFunc, hf, h1, hb], calls_of_wp hf hb ?_⟩
  unfold runF at hrun
  rw [hb] at hrun
  simp only at hrun
  obtain ⟨x, e1, e2⟩ := eval_bind hrun
  have hnew : New (hOf objs) := by
    intro i ro g t vs hq
    rw [hOf_get] at hq
    cases ho : objs[i]? with
    | none => rw [ho] at hq; cases hq
    | some o =>
      rw [ho] at hq
      have := hgen o (List.mem_of_getElem? ho)
      simp only [Option.getD_some] at hq
      rw [hq] at this
      exact this
  have hlen := hargs.length
  have r0 : Rel E Z (cargs ++ Array.replicate (fn.ntmps - cargs.size) undef).size (begin0 args objs) β { tmps := cargs ++ Array.replicate (fn.ntmps - cargs.size) undef, defers := [] } w := by
    refine ⟨cx, fun t => ?_, rfl, rfl⟩
    show Rep _ _ _ (begin0.hOfV args t) _ _
    rw [begin_slot]
    by_cases ht : t < args.length
    · have h2 : args[t]? = some args[t] := List.getElem?_eq_getElem ht
      obtain ⟨y, h3, h4⟩ := RepL.get t _ hargs h2
      have h5 : (cargs ++ Array.replicate (fn.ntmps - cargs.size) undef).getD t undef = y := by
        have h6 : t < cargs.size := by simp at hlen; omega
        rw [Array.getD_eq_getD_getElem?, Array.getElem?_append_left h6]
        have : cargs[t]? = some y := by simpa using h3
        rw [this]; rfl
      show Rep _ _ _ _ _ ((cargs ++ Array.replicate (fn.ntmps - cargs.size) undef).getD t undef)
      rw [h5, List.getD_eq_getElem?_getD, h2]
      exact h4
    · rw [List.getD_eq_getElem?_getD, List.getElem?_eq_none (by omega)]
      exact trivial
  have hfresh : Fresh (begin0 args objs) := fun i hi => by
    show hOf objs i = .dead
    rw [hOf_get, List.getElem?_eq_none hi]
    rfl
  refine wp_mono (exec_sound hT hC hnew c _ x β _ w (codeOk_mono (by simp; omega) c hcode) hloops e1 r0 hfresh Wk.refl) (fun e a' w' hp => ?_)
  obtain ⟨β', r', hf', hw', hx⟩ := hp
  obtain ⟨ex, s1⟩ := x
  have cxE : ∀ l, Cx E.ty E.glob Z (hOf (reO s1.ob (genE objs.length) (exportIds objs.length s1 l))) (reL β' (exportIds objs.length s1 l)) w' := fun l =>
    r'.cx.re (reach_nodup _ _) (fun b hb => .inl hb) r'.cx.zlt (fun i _ mi => r'.cx.zown i mi)
  have wkE : ∀ l, Wk objs.length (hOf objs) β w (hOf (reO s1.ob (genE objs.length) (exportIds objs.length s1 l))) (reL β' (exportIds objs.length s1 l)) w' := fun l =>
    hw'.re hnew (fun i hi => reach_range _ _ _ hi) (fun i g hi h => genE_zero i g hi h)
  have hO : ∀ l b, Own Z (reH s1.ob (genE objs.length) (exportIds objs.length s1 l)) (reL β' (exportIds objs.length s1 l)) b → Own Z s1.ob β' b := fun l => reOwn (fun b hb => .inl hb)
  have fin : (finish E objs.length own fn s1).eval = some out → a'.defers = [] ∧ ∃ v, (results fn a'.tmps).run P w' = .ok v w' ∧ Ends E.ty E.glob Z objs β w out (.returned v) w' := by
    intro hfin
    unfold finish at hfin
    cases hvs : allSome (fn.results.toList.map (resOf E s1)) with
    | none => rw [hvs] at hfin; simp [Tr.eval] at hfin
    | some vs =>
      rw [hvs] at hfin
      obtain ⟨y, hy1, hy2⟩ := res_sound hT r' hvs
      refine ⟨r'.defers, y, hy1, ?_⟩
      have hfin2 : (leave E objs.length own s1 (packRes vs)).eval = some out := by
        match vs, hfin with
        | [], h => exact h
        | [v], h => exact h
        | _ :: _ :: _, h => exact h
      unfold leave at hfin2
      cases own with
      | true =>
        simp only [Tr.eval, Option.some.injEq] at hfin2
        exact ⟨_, _, _, hfin2.symm, cxE _, wkE _, hy2.re (hO _)⟩
      | false =>
        simp only at hfin2
        split at hfin2
        · rename_i hap
          simp only [Tr.eval, Option.some.injEq] at hfin2
          unfold apart at hap
          rw [Bool.and_eq_true, List.all_eq_true, List.all_eq_true] at hap
          refine ⟨_, _, _, hfin2.symm, cxE _, wkE _, ?_⟩
          refine toTree_sound hT r'.cx (fun i => .inr rfl) (hO []) (S := reach s1.ob (packRes vs).refs) (fun i hi j hj => ?_) (fun i hi ha hn ho => ?_) _ _ _ _ (fun i hi => reach_mem _ _ hi) hy2
          · have := hap.2 i hi
            simp only [Bool.and_eq_true, List.all_eq_true] at this
            simpa using this.2 j hj
          · have h7 := hap.2 i hi
            simp only [Bool.and_eq_true, Bool.not_eq_true'] at h7
            have hni : i ∉ exportIds objs.length s1 [] := by simpa using h7.1.2
            by_cases hrw : (s1.ob i).rw = true
            · have mi : Mine s1.ob β' i := ⟨hrw, hn⟩
              rcases ho with hz | ⟨k, mk, e⟩
              · exact r'.cx.zown i mi hz
              · obtain ⟨j, hj, mj, ej⟩ := reMine mk
                exact r'.cx.inj j i (fun e' => hni (by rw [← e']; exact List.mem_of_getElem? hj)) mj mi (ej.symm.trans e)
            · exact r'.cx.ro i ha (by simpa using hrw) hn (hO _ _ ho)
        · simp [Tr.eval] at hfin2
  cases ex with
  | normal =>
    cases e with
    | normal => exact fin e2
    | _ => exact hx.elim
  | ret =>
    cases e with
    | ret => exact fin e2
    | _ => exact hx.elim
  | exit i => simp [Tr.eval] at e2
  | goto l => simp [Tr.eval] at e2
  | panic v =>
    simp only [leaveP, Tr.eval, Option.some.injEq] at e2
    cases e with
    | panic ch =>
      obtain ⟨k1, y, k2, k3⟩ := hx
      refine ⟨r'.defers, _, _, _, y, e2.symm, k1, k2, cxE _, wkE _, ?_⟩
      exact Rep.kept (Kept.less (hO _)) _ _ _ _ (fun _ _ h => h) (Rep.refs v _ _ y (fun _ _ _ h => h.elim) k3)
    | _ => exact hx.elim
end
end Go.AH
