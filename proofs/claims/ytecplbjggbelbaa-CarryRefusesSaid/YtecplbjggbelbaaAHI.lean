/- Calls; and every operation. -/
import Derived.Test.YtecplbjggbelbaaAHG
namespace Go.AH
open Go Go.RowKit

section
variable {T : TypeId → Ty} {G : Nat → V} {E : Env} {P : Program} {Z : Nat → Prop} {h view : Nat → Ob} {β : Nat → Loc} {w : World} {s : Nat → V} {a : Act} {fr : Nat} {o : Oper} {r : Rs}

/-- How a call ends. -/
def Ends (T : TypeId → Ty) (G : Nat → V) (Z : Nat → Prop) (objs : List Ob) (β : Nat → Loc) (w : World) (out : Out) : Ending → World → Prop
  | .returned x, w' => ∃ v objs' β', out = .ret v objs' ∧ Good T G Z objs.length (hOf objs) β w v objs' β' w' x
  | .panicked chain, w' => ∃ v objs' β' x, out = .panic v objs' ∧ v.noRef = true ∧ chain = [{ v := x, recovered := false }] ∧ Good T G Z objs.length (hOf objs) β w v objs' β' w' x
  | .outgrown, _ => False
def Runs (P : Program) (f : FuncId) (cargs : Array Value) (w : World) (R : Ending → World → Prop) : Prop :=
  ((callFunc f cargs).run P w = .ok (.enter f cargs) w ∧ Calls P f cargs w R) ∨ (∃ x w', (callFunc f cargs).run P w = .ok (.value x) w' ∧ R (.returned x) w')
/-- The function does what its model says. -/
def Holds (T : TypeId → Ty) (G : Nat → V) (P : Program) (f : FuncId) (C : List V → List Ob → Tr Out) : Prop :=
  ∀ args objs out, (C args objs).eval = some out → (∀ o ∈ objs, o.gen = 0) → ∀ (Z : Nat → Prop) β w (cargs : Array Value), Cx T G Z (hOf objs) β w → RepL T w (Own Z (hOf objs) β) args (RefRep T (hOf objs) β) cargs.toList →
    Runs P f cargs w (Ends T G Z objs β w out)

theorem reV_view {ids : List Nat} (hv : ∀ i ∈ ids, view i = h i) (δ : Nat → Nat → Nat) : renRef (pos ids) (genAt view δ) = renRef (pos ids) (genAt h δ) := by
  have hg : ∀ i k g, pos ids i = some k → genAt view δ i g = genAt h δ i g := fun i k g hp => by
    unfold genAt
    rw [hv i (List.mem_of_getElem? (pos_get hp))]
  funext v
  cases v <;> simp only [renRef] <;> first | rfl | skip
  all_goals
    rename_i i _ _ _ 
    first
      | (cases hp : pos ids i with
        | none => rfl
        | some k => simp only [hg i k _ hp])
      | skip
  all_goals
    rename_i i _ _
    cases hp : pos ids i with
    | none => rfl
    | some k => simp only [hg i k _ hp]
theorem reO_view {ids : List Nat} (hv : ∀ i ∈ ids, view i = h i) (δ : Nat → Nat → Nat) : reO view δ ids = reO h δ ids := by
  unfold reO
  rw [reV_view hv]
  exact List.map_congr_left (fun i hi => by rw [hv i hi])
mutual
theorem mapRef_id {φ : V → V} : ∀ (v : V), v.refs = [] → v.mapRef φ = v
  | .top, _ => by simp [V.mapRef]
  | .bool _, _ => by simp [V.mapRef]
  | .int _ _, _ => by simp [V.mapRef]
  | .str _, _ => by simp [V.mapRef]
  | .nilp, _ => by simp [V.mapRef]
  | .nilm, _ => by simp [V.mapRef]
  | .nilf, _ => by simp [V.mapRef]
  | .nili, _ => by simp [V.mapRef]
  | .agg cs, h => by rw [V.mapRef, mapRefs_id cs (by simpa [V.refs] using h)]
  | .tup cs, h => by rw [V.mapRef, mapRefs_id cs (by simpa [V.refs] using h)]
  | .seq _ _, _ => by simp [V.mapRef]
  | .pref _, _ => by simp [V.mapRef]
  | .dict _ _ _, _ => by simp [V.mapRef]
  | .clo f a b, h => by
    rw [V.refs, List.append_eq_nil_iff] at h
    rw [V.mapRef, mapRefs_id a h.1, mapRefs_id b h.2]
  | .iface t v, h => by rw [V.mapRef, mapRef_id v (by simpa [V.refs] using h)]
  | .box .., h => by simp [V.refs] at h
  | .full .., h => by simp [V.refs] at h
  | .sub .., h => by simp [V.refs] at h
  | .elt .., h => by simp [V.refs] at h
  | .mref .., h => by simp [V.refs] at h
theorem mapRefs_id {φ : V → V} : ∀ (vs : List V), V.refsL vs = [] → V.mapRefs φ vs = vs
  | [], _ => by simp [V.mapRefs]
  | v :: vs, h => by
    rw [V.refsL, List.append_eq_nil_iff] at h
    rw [V.mapRefs, mapRef_id v h.1, mapRefs_id vs h.2]
end
theorem mapRef_noRef {φ : V → V} {v : V} (h : v.noRef = true) : v.mapRef φ = v := mapRef_id v (by simpa [V.noRef] using h)
theorem refsL_split : ∀ (m : List Bool) (args : List V) (v : V) (i : Nat), v ∈ (split m args).2 → i ∈ v.refs → i ∈ V.refsL (split m args).2 := fun m args v i hv hi => refsL_mem hv hi
theorem passArgs_sound {O O' : Nat → Prop} {R R' : V → Value → Prop} {φ : V → V} (S : List Nat) (h1 : ∀ v x, Rep T w O v R x → Rep T w O' (φ v) R' x) (h2 : ∀ v x, (∀ i ∈ v.refs, i ∈ S) → Rep T w O v R x → Rep T w O' (toTree T view treeFuel v) R' x) :
    ∀ (args : List V) (m : List Bool) (l : List Value), (∀ i ∈ V.refsL (split m args).2, i ∈ S) → RepL T w O args R l → RepL T w O' (passArgs T view φ m args) R' l
  | [], m, l, _, h => h
  | v :: r, m, _, hS, ⟨x, l, rfl, g1, g2⟩ => by
    rw [passArgs]
    have hsp : split m (v :: r) = (match m.headD false with | true => (v :: (split m.tail r).1, (split m.tail r).2) | false => ((split m.tail r).1, v :: (split m.tail r).2)) := rfl
    rw [hsp] at hS
    cases hm : m.headD false with
    | true =>
      rw [hm] at hS
      exact ⟨x, l, rfl, h1 v x g1, passArgs_sound S h1 h2 r m.tail l hS g2⟩
    | false =>
      rw [hm] at hS
      simp only [V.refsL] at hS
      exact ⟨x, l, rfl, h2 v x (fun i hi => hS i (List.mem_append.2 (.inl hi))) g1, passArgs_sound S h1 h2 r m.tail l (fun i hi => hS i (List.mem_append.2 (.inr hi))) g2⟩

/-- What an operation comes to, for the walk. -/
def Comes2 (E : Env) (Z : Nat → Prop) (h : Nat → Ob) (β : Nat → Loc) (w : World) (a : Act) (fr : Nat) (o : Oper) (r : Rs) (next : Act → World → Prop) (Q : Exit → Act → World → Prop) : Prop :=
  (∀ v u x w' β', r = .ok v u → Done E Z h β w fr v u x β' w' → next (a.put o.dst x) w') ∧
  (∀ v u x w' β', r = .pan v u → v.noRef = true → Done E Z h β w fr v u x β' w' → Q (.panic [{ v := x, recovered := false }]) a w')

theorem call_sound (hT : TyOk P E.ty) (cx : Cx E.ty E.glob Z h β w) (hv : Sees view h) (hfr : ∀ i, fr ≤ i → i < fr + 64 → h i = .dead) {g : FuncId} (hC : Holds E.ty E.glob P g (E.C g)) {args : List V} {cargs : Array Value}
    (hargs : RepL E.ty w (Own Z h β) args (RefRep E.ty h β) cargs.toList) (he : (evCall E view fr g args).eval = some r) :
    Runs P g cargs w fun e w' => match e with
      | .returned x => ∃ v u β', r = .ok v u ∧ Done E Z h β w fr v u x β' w'
      | .panicked chain => ∃ v u x β', r = .pan v u ∧ v.noRef = true ∧ chain = [{ v := x, recovered := false }] ∧ Done E Z h β w fr v u x β' w'
      | .outgrown => False := by
  unfold evCall at he
  obtain ⟨ids, hids⟩ : ∃ ids, ids = reach view (V.refsL (split (E.mode g) args).1) := ⟨_, rfl⟩
  obtain ⟨bor, hbor⟩ : ∃ bor, bor = reach view (V.refsL (split (E.mode g) args).2) := ⟨_, rfl⟩
  rw [← hids, ← hbor] at he
  simp only at he
  split at he
  · simp [Tr.eval] at he
  · rename_i hap
    obtain ⟨out, h1, h2⟩ := eval_bind he
    have hnd : ids.Nodup := hids ▸ reach_nodup _ _
    have hap' := hap
    unfold apart at hap'
    rw [Bool.and_eq_true, List.all_eq_true, List.all_eq_true] at hap'
    obtain ⟨hal, hbo⟩ := hap'
    have hvi : ∀ i ∈ ids, view i = h i ∧ (h i).alive = true := fun i hi => by
      have h1 := hal i hi
      rcases hv i with h2 | h2
      · rw [h2] at h1; cases h1
      · exact ⟨h2, by rw [← h2]; exact h1⟩
    rw [reO_view (fun i hi => (hvi i hi).1)] at h1
    have hZ : ∀ b, lent Z h β ids bor b → Own Z h β b := by
      rintro b (hz | ⟨i, mi, _, _, e⟩)
      · exact .inl hz
      · exact .inr ⟨i, mi, e⟩
    have hlt : ∀ i, Mine h β i → (β i).b < w.heap.size := fun i mi => (cx.ob i).lt (Ob.rw_alive mi.1) mi.2
    have cxE : Cx E.ty E.glob (lent Z h β ids bor) (reH h gen0 ids) (reL β ids) w := cx.re hnd hZ
      (by
        rintro b (hz | ⟨i, mi, _, _, e⟩)
        · exact cx.zlt b hz
        · rw [← e]; exact hlt i mi)
      (by
        rintro i hi mi (hz | ⟨j, mj, hj, _, e⟩)
        · exact cx.zown i mi hz
        · exact cx.inj j i (fun e' => hj (by rw [e']; exact hi)) mj mi e)
    have hO : ∀ b, Own (lent Z h β ids bor) (reH h gen0 ids) (reL β ids) b → Own Z h β b := reOwn hZ
    have hbav : ∀ i ∈ bor, (h i).alive = true → (β i).nil = false → ¬ Own (lent Z h β ids bor) (reH h gen0 ids) (reL β ids) (β i).b := by
      intro i hi ha hn ho
      have hni : i ∉ ids := by
        have := hbo i hi
        simp only [Bool.and_eq_true, Bool.not_eq_true'] at this
        simpa using this.1.2
      by_cases hrw : (h i).rw = true
      · have mi : Mine h β i := ⟨hrw, hn⟩
        rcases ho with (hz | ⟨j, mj, _, hj, e⟩) | ⟨k, mk, e⟩
        · exact cx.zown i mi hz
        · exact cx.inj j i (fun e' => hj (by rw [e']; exact hi)) mj mi e
        · obtain ⟨j, hj, mj, ej⟩ := reMine mk
          exact cx.inj j i (fun e' => hni (by rw [← e']; exact List.mem_of_getElem? hj)) mj mi (ej.symm.trans e)
      · exact cx.ro i ha (by simpa using hrw) hn (hO _ ho)
    have hargs2 : RepL E.ty w (Own (lent Z h β ids bor) (reH h gen0 ids) (reL β ids)) (passArgs E.ty view (reV view gen0 ids) (E.mode g) args) (RefRep E.ty (reH h gen0 ids) (reL β ids)) cargs.toList := by
      refine passArgs_sound bor (fun v x hr => ?_) (fun v x hS hr => ?_) args (E.mode g) _ (fun i hi => hbor ▸ reach_mem view _ hi) hargs
      · have : reV view gen0 ids v = reV h gen0 ids v := by unfold reV; rw [reV_view (fun i hi => (hvi i hi).1)]
        rw [this]
        exact hr.re hO
      · refine toTree_sound hT cx hv hO (S := bor) (fun i hi j hj => ?_) hbav _ v x _ hS hr
        have := hbo i hi
        simp only [Bool.and_eq_true, List.all_eq_true] at this
        simpa using this.2 j hj
    have hgen : ∀ o ∈ reO h gen0 ids, o.gen = 0 := by
      intro o ho
      obtain ⟨i, _, rfl⟩ := List.mem_map.1 ho
      cases h i <;> rfl
    have hlen : (reO h gen0 ids).length = ids.length := by simp [reO]
    have key := hC _ _ out h1 hgen (lent Z h β ids bor) (reL β ids) w cargs cxE hargs2
    have fin : ∀ e w', Ends E.ty E.glob (lent Z h β ids bor) (reO h gen0 ids) (reL β ids) w out e w' → (match e with
      | .returned x => ∃ v u β', r = .ok v u ∧ Done E Z h β w fr v u x β' w'
      | .panicked chain => ∃ v u x β', r = .pan v u ∧ v.noRef = true ∧ chain = [{ v := x, recovered := false }] ∧ Done E Z h β w fr v u x β' w'
      | .outgrown => False) := by
      intro e w' hend
      cases e with
      | returned x =>
        obtain ⟨v, objs', β', rfl, gd⟩ := hend
        rw [hlen] at gd
        simp only [backRs] at h2
        split at h2
        · rename_i hl
          rw [Bool.and_eq_true] at hl
          simp only [Tr.eval, Option.some.injEq] at h2
          obtain ⟨c1, c2, c3, c4⟩ := call_back cx hv hnd hap hfr (Nat.le_of_ble_eq_true hl.1) (Nat.le_of_ble_eq_true hl.2) gd
          exact ⟨_, _, _, h2.symm, c1, c2, c3, c4⟩
        · simp [Tr.eval] at h2
      | panicked chain =>
        obtain ⟨v, objs', β', x, rfl, hnr, rfl, gd⟩ := hend
        rw [hlen] at gd
        simp only [backRs] at h2
        split at h2
        · rename_i hl
          simp only [Bool.and_eq_true] at hl
          simp only [Tr.eval, Option.some.injEq] at h2
          obtain ⟨c1, c2, c3, c4⟩ := call_back cx hv hnd hap hfr (Nat.le_of_ble_eq_true hl.1.1) (Nat.le_of_ble_eq_true hl.1.2) gd
          have h5 : Rep E.ty w' (Own Z (updL h (backU E.ty view ids bor fr v objs')) (backL β β' ids fr)) v (RefRep E.ty (updL h (backU E.ty view ids bor fr v objs')) (backL β β' ids fr)) x := by
            have h8 : backV view ids fr v = v := mapRef_noRef hnr
            rw [h8] at c3
            exact c3
          exact ⟨_, _, _, _, h2.symm, hnr, rfl, c1, c2, h5, c4⟩
        · simp [Tr.eval] at h2
      | outgrown => exact hend.elim
    rcases key with ⟨k1, k2⟩ | ⟨x, w', k1, k2⟩
    · exact .inl ⟨k1, k2.mono fin⟩
    · exact .inr ⟨x, w', k1, fin _ _ k2⟩
end
end Go.AH
