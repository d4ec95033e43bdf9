/- Carry: CarryTwice, CarryOrders. -/
import Derived.Test.YtecplbjggbelbaaCG
namespace Go.Proofs.Ytecplbjggbelbaa
open Go Go.AH
set_option maxRecDepth 100000
def carriedW (ws K : List V) (y : V) : V := match findIx (sameOn y) K 0 with | some k => .agg [.int .i64 (tA (ws.getD k .top)), .int .i64 (nA (ws.getD k .top))] | none => .agg [.int .i64 (onT y), .int .i64 0]
theorem val_w {ws K : List V} {y : V} (hy : fitOn y) : valV ws (onT y) (ixI (findIx (sameOn y) K 0)) = carriedW ws K y := by
  unfold carriedW
  cases h : findIx (sameOn y) K 0 with
  | none =>
    show V.agg [.int .i64 (defT (onT y)), .int .i64 0] = _
    rw [defT_on hy]
  | some k =>
    have e : ixI (some k) = (k : Int) := rfl
    rw [e]
    unfold valV
    rw [decide_eq_true (show (k : Int) ≥ 0 by omega), Int.toNat_natCast]
theorem vals_w {ws K M : List V} (hl : ws.length = K.length) (hok : okAll ws (K.map onVar) = true) (hM : ∀ y ∈ M, fitOn y) : valsOf (K.map onVar) (M.map onVar) ws = some (M.map (carriedW ws K)) := by
  unfold valsOf
  rw [hok, show decide (ws.length = (K.map onVar).length) = true by simp [hl]]
  unfold slotsOf
  rw [List.map_map]
  simp only [Bool.and_self]
  rw [valRun_all (h := onVar) M [] (fun y hy => chk_on0 (hM y hy))]
  simp only [List.nil_append, Option.some.injEq]
  refine List.map_congr_left fun y hy => ?_
  show valV ws (onT y) (slotI (K.map onVar) (onVar y)) = _
  rw [slot_on, val_w (hM y hy)]
theorem carried_ok {K : List V} (hK : ∀ x ∈ K, fitOn x) {y : V} (hy : fitOn y) : okV (carried K y) (onVar y) = true := by
  unfold carried
  cases h : findIx (sameOn y) K 0 with
  | none =>
    show (chkI (onT y) 0 == 0 && onT y == onT y) = true
    rw [chk_on0 hy]
    simp
  | some k =>
    obtain ⟨_, x, hx, hs⟩ := findIx_some h
    simp only [Nat.sub_zero] at hx
    have ex : K.getD k .top = x := by rw [List.getD_eq_getElem?_getD, hx]; rfl
    simp only [sameOn, Bool.and_eq_true, beq_iff_eq] at hs
    show (chkI (onT (K.getD k .top)) (onN (K.getD k .top)) == 0 && onT (K.getD k .top) == onT y) = true
    rw [ex, chk_on (hK x (List.mem_of_getElem? hx)), hs.2]
    simp
theorem okAll_carried {K : List V} (hK : ∀ x ∈ K, fitOn x) : ∀ (M : List V), (∀ y ∈ M, fitOn y) → okAll (M.map (carried K)) (M.map onVar) = true
  | [], _ => rfl
  | y :: r, h => by
    simp only [List.map_cons, okAll, carried_ok hK (h y (by simp)), okAll_carried hK r (fun z hz => h z (by simp [hz])), Bool.and_self]
theorem sameOn_eq {y z : V} (h : sameOn z y = true) : sameOn z = sameOn y := by
  funext x
  simp only [sameOn, Bool.and_eq_true, beq_iff_eq] at h
  unfold sameOn
  rw [h.1, h.2]
theorem carried_eq {K : List V} {y z : V} (h : sameOn z y = true) : carried K z = carried K y := by
  have h2 : onT z = onT y := by
    simp only [sameOn, Bool.and_eq_true, beq_iff_eq] at h
    exact h.2
  unfold carried
  rw [sameOn_eq h, h2]

/- CarryTwice. -/
structure TwiceF (second third between e o : List V) (K1 K2 K3 : List V) : Prop where
  f1 : ∀ x ∈ K1, fitOn x
  f2 : ∀ x ∈ K2, fitOn x
  f3 : ∀ x ∈ K3, fitOn x
  s_ : second = K2.map onVar
  t_ : third = K3.map onVar
  b_ : between = K2.map (carried K1)
  e_ : e = K3.map (carriedW between K2)
  o_ : o = K3.map (carried K1)
  l2 : K2.length ≤ 65536
  l3 : K3.length ≤ 65536
noncomputable def LTw : List V → List Ob → Tr (Ex × List V × List Ob)
  | [.seq 48 second, .seq 48 third, .seq 44 between, .seq 44 e, .seq 44 o, .int .i64 i], [] => .test (pd (∃ K1 K2 K3, TwiceF second third between e o K1 K2 K3) && decide (0 ≤ i)) (.ret (.exit 0, [.top], []))
  | _, _ => .fail
noncomputable def L7 : LM := fun key => (match key with | 12 => LTw | _ => fun _ _ => .fail)
noncomputable def E7 : Env := EF 7 CL L7
theorem twice_step (second third between e o : List V) (i : Int) : (loopStep E7 0 12 (loopB Try.f7 12) [.seq 48 second, .seq 48 third, .seq 44 between, .seq 44 e, .seq 44 o, .int .i64 i] []).eval = ((Tr.ite (decide (i < (↑third.length : Int)))
 (.ite (decide ((0 : Int) ≤ i) && decide (i < (↑third.length : Int)))
  (.ite (decide ((0 : Int) ≤ i) && decide (i < (↑third.length : Int)))
   (.ite (decide (second.length ≤ (65536 : Nat)) && decide (second.length ≤ between.length))
    (.ite (decide ((0 : Int) ≤ i) && decide (i < (↑third.length : Int)))
     (.ite ((ofA second between ((third.getD i.toNat V.top).cell (0 : Nat)).toS ((third.getD i.toNat V.top).cell (1 : Nat)).toI).isSome)
      (.ite (decide ((0 : Int) ≤ i) && decide (i < (↑e.length : Int)))
       (.ite (decide ((0 : Int) ≤ i) && decide (i < (↑o.length : Int)))
        (.ite (!!(((e.getD i.toNat V.top).cell (0 : Nat)).toI == ((o.getD i.toNat V.top).cell (0 : Nat)).toI && (((e.getD i.toNat V.top).cell (1 : Nat)).toI == ((o.getD i.toNat V.top).cell (1 : Nat)).toI && true)))
         (.ite (!(ofA second between ((third.getD i.toNat V.top).cell (0 : Nat)).toS ((third.getD i.toNat V.top).cell (1 : Nat)).toI).isSome)
          (.ite (decide ((0 : Int) ≤ i) && decide (i < (↑e.length : Int)))
           (.ite (!(((e.getD i.toNat V.top).cell (0 : Nat)).toI == defT ((third.getD i.toNat V.top).cell (1 : Nat)).toI && (((e.getD i.toNat V.top).cell (1 : Nat)).toI == (0 : Int) && true)))
            (.ret ((Ex.ret, [V.bool false], [])))
            (.ret ((Ex.normal, [V.seq (nat_lit 48) second, V.seq (nat_lit 48) third, V.seq (nat_lit 44) between, V.seq (nat_lit 44) e, V.seq (nat_lit 44) o, V.int IntKind.i64 (IntKind.i64.wrap (i + (1 : Int)))], []))))
           .fail)
          (.ret ((Ex.normal, [V.seq (nat_lit 48) second, V.seq (nat_lit 48) third, V.seq (nat_lit 44) between, V.seq (nat_lit 44) e, V.seq (nat_lit 44) o, V.int IntKind.i64 (IntKind.i64.wrap (i + (1 : Int)))], []))))
         (.ret ((Ex.ret, [V.bool false], []))))
        .fail)
       .fail)
      (.ite (!(ofA second between ((third.getD i.toNat V.top).cell (0 : Nat)).toS ((third.getD i.toNat V.top).cell (1 : Nat)).toI).isSome)
       (.ite (decide ((0 : Int) ≤ i) && decide (i < (↑e.length : Int)))
        (.ite (!(((e.getD i.toNat V.top).cell (0 : Nat)).toI == defT ((third.getD i.toNat V.top).cell (1 : Nat)).toI && (((e.getD i.toNat V.top).cell (1 : Nat)).toI == (0 : Int) && true)))
         (.ret ((Ex.ret, [V.bool false], [])))
         (.ret ((Ex.normal, [V.seq (nat_lit 48) second, V.seq (nat_lit 48) third, V.seq (nat_lit 44) between, V.seq (nat_lit 44) e, V.seq (nat_lit 44) o, V.int IntKind.i64 (IntKind.i64.wrap (i + (1 : Int)))], []))))
        .fail)
       (.ret ((Ex.normal, [V.seq (nat_lit 48) second, V.seq (nat_lit 48) third, V.seq (nat_lit 44) between, V.seq (nat_lit 44) e, V.seq (nat_lit 44) o, V.int IntKind.i64 (IntKind.i64.wrap (i + (1 : Int)))], [])))))
     .fail)
    .fail)
   .fail)
  .fail)
 (.ret ((Ex.exit (nat_lit 0), [V.top], []))))).eval := by kernel_rfl
theorem ofA_on (K ws : List V) (y : V) : ofA (K.map onVar) ws (onNm y) (onT y) = (findIx (sameOn y) K 0).map fun k => ws.getD k .top := by
  unfold ofA
  rw [findIx_map]
  congr 1
  refine findIx_congr fun v _ => ?_
  show (onNm v == onNm y && onT v == onT y) = (onNm y == onNm v && onT y == onT v)
  rw [Bool.beq_comm, Bool.beq_comm (a := onT v)]
theorem tA_carried_agg (K : List V) (y : V) : V.agg [.int .i64 (tA (carried K y)), .int .i64 (nA (carried K y))] = carried K y := by
  unfold carried
  cases findIx (sameOn y) K 0 <;> rfl
theorem twice_law : LoopLaw E7 0 (loopB Try.f7 12) := by
  refine ⟨fun vs _ => (match vs with | [_, .seq _ vs, _, _, _, .int _ k] => vs.length - k.toNat | _ => 0), fun vs os r h => ?_⟩
  rw [show loopKey (loopB Try.f7 12) = 12 from by kernel_rfl] at h ⊢
  replace h : (LTw vs os).eval = some r := h
  unfold LTw at h
  split at h
  · rename_i second third between e o i
    obtain ⟨h1, h2⟩ := eval_test h
    rw [Bool.and_eq_true, pd_iff, decide_eq_true_eq] at h1
    obtain ⟨⟨K1, K2, K3, f1, f2, f3, rfl, rfl, rfl, rfl, rfl, l2, l3⟩, h3⟩ := h1
    rw [twice_step]
    by_cases hk : i < (((K3.map onVar).length : Nat) : Int)
    · have hkn : i.toNat < K3.length := by simp at hk; omega
      have ey : (K3.map onVar).getD i.toNat .top = onVar (K3.getD i.toNat .top) := getD_map hkn
      have ee : (K3.map (carriedW (K2.map (carried K1)) K2)).getD i.toNat .top = carriedW (K2.map (carried K1)) K2 (K3.getD i.toNat .top) := getD_map hkn
      have eo : (K3.map (carried K1)).getD i.toNat .top = carried K1 (K3.getD i.toNat .top) := getD_map hkn
      have hm : K3.getD i.toNat .top ∈ K3 := by rw [getD_lt hkn]; exact List.getElem_mem hkn
      have hf := f3 _ hm
      obtain ⟨z, hz⟩ : ∃ z, z = K3.getD i.toNat .top := ⟨_, rfl⟩
      rw [← hz] at ey ee eo hm hf
      have hi1 : i < (K3.length : Int) := by omega
      have c0 : ((onVar z).cell 0).toS = onNm z := rfl
      have c1 : ((onVar z).cell 1).toI = onT z := rfl
      have ew := wrap_i64 (show -9223372036854775808 ≤ i + 1 by omega) (by omega)
      have fin : ∃ y, some (Ex.normal, [V.seq 48 (K2.map onVar), V.seq 48 (K3.map onVar), V.seq 44 (K2.map (carried K1)), V.seq 44 (K3.map (carriedW (K2.map (carried K1)) K2)), V.seq 44 (K3.map (carried K1)), V.int .i64 (i + 1)], ([] : List Ob)) = some y ∧ LoopNext E7 12 (fun vs _ => (match vs with | [_, .seq _ vs, _, _, _, .int _ k] => vs.length - k.toNat | _ => 0)) [V.seq 48 (K2.map onVar), V.seq 48 (K3.map onVar), V.seq 44 (K2.map (carried K1)), V.seq 44 (K3.map (carriedW (K2.map (carried K1)) K2)), V.seq 44 (K3.map (carried K1)), V.int .i64 i] [] r y := by
        refine ⟨_, rfl, ?_, ?_⟩
        · show (K3.map onVar).length - (i + 1).toNat < (K3.map onVar).length - i.toNat
          simp; omega
        · show (LTw [V.seq 48 (K2.map onVar), V.seq 48 (K3.map onVar), V.seq 44 (K2.map (carried K1)), V.seq 44 (K3.map (carriedW (K2.map (carried K1)) K2)), V.seq 44 (K3.map (carried K1)), V.int .i64 (i + 1)] []).eval = some r
          unfold LTw
          simp only
          rw [pd_iff.2 ⟨K1, K2, K3, f1, f2, f3, rfl, rfl, rfl, rfl, rfl, l2, l3⟩, decide_eq_true (show (0 : Int) ≤ i + 1 by omega)]
          exact h2
      simp only [eval_ite, ey, ee, eo, c0, c1, ofA_on, ew, List.length_map, hi1, h3, l2, decide_true, Bool.and_self, if_true, Nat.le_refl]
      cases hq : findIx (sameOn z) K2 0 with
      | none =>
        have e1 : carriedW (K2.map (carried K1)) K2 z = .agg [.int .i64 (onT z), .int .i64 0] := by unfold carriedW; rw [hq]
        have hd : defT (onT z) = onT z := defT_on hf
        have t1 : ((V.agg [V.int .i64 (onT z), V.int .i64 0]).cell 0).toI = onT z := rfl
        have t2 : ((V.agg [V.int .i64 (onT z), V.int .i64 0]).cell 1).toI = 0 := rfl
        simp only [Option.map_none, Option.isSome_none, Bool.not_false, if_true, e1, t1, t2, hd, beq_self_eq_true, Bool.and_self, Bool.not_true, Bool.false_eq_true, if_false]
        exact fin
      | some k =>
        have hk2 := (findIx_lt hq).2
        obtain ⟨_, y, hy, hs⟩ := findIx_some hq
        simp only [Nat.zero_add, Nat.sub_zero] at hk2 hy
        have ex : K2.getD k .top = y := by rw [List.getD_eq_getElem?_getD, hy]; rfl
        have e1 : carriedW (K2.map (carried K1)) K2 z = carried K1 z := by
          unfold carriedW
          rw [hq]
          simp only
          rw [getD_map hk2, ex, carried_eq hs, tA_carried_agg]
        simp only [Option.map_some, Option.isSome_some, Bool.not_true, Bool.false_eq_true, if_false, e1, beq_self_eq_true, Bool.and_self, if_true]
        exact fin
    · simp only [eval_ite, hk, decide_false, Bool.false_eq_true, if_false]
      exact ⟨_, rfl, by simpa [eval_ret, LoopNext] using h2⟩
  · simp [Tr.eval] at h
theorem twice_run (a b c : List V) : (runF E7 false Try.f7 [.seq 70 a, .seq 70 b, .seq 70 c] []).eval = ((Tr.ite (!decide ((↑a.length : Int) > (60 : Int)))
 (.ite (!decide ((↑b.length : Int) > (60 : Int)))
  (.ite (decide ((↑c.length : Int) > (60 : Int)))
   (.ret (Out.ret (V.bool true) []))
   (.ite (decide (a.length ≤ (65536 : Nat)))
    (.ite (decide (b.length ≤ (65536 : Nat)))
     (.ite (decide (c.length ≤ (65536 : Nat)))
      (.ite (decide ((madeRun a [] []).fst.length ≤ (65536 : Nat)) && decide ((madeRun b [] []).fst.length ≤ (65536 : Nat)))
       (.ite ((valsOf (madeRun a [] []).fst (madeRun b [] []).fst (madeRun a [] []).snd).isSome)
        (.ite (decide ((madeRun b [] []).fst.length ≤ (65536 : Nat)) && decide ((madeRun c [] []).fst.length ≤ (65536 : Nat)))
         (.ite ((valsOf (madeRun b [] []).fst (madeRun c [] []).fst ((valsOf (madeRun a [] []).fst (madeRun b [] []).fst (madeRun a [] []).snd).getD [])).isSome)
          (.ite (decide ((madeRun a [] []).fst.length ≤ (65536 : Nat)) && decide ((madeRun c [] []).fst.length ≤ (65536 : Nat)))
           (.ite ((valsOf (madeRun a [] []).fst (madeRun c [] []).fst (madeRun a [] []).snd).isSome)
            (.ite (!(↑((valsOf (madeRun b [] []).fst (madeRun c [] []).fst ((valsOf (madeRun a [] []).fst (madeRun b [] []).fst (madeRun a [] []).snd).getD [])).getD []).length : Int) != (↑(madeRun c [] []).fst.length : Int))
             (.ite ((↑((valsOf (madeRun a [] []).fst (madeRun c [] []).fst (madeRun a [] []).snd).getD []).length : Int) != (↑(madeRun c [] []).fst.length : Int))
              (.ret (Out.ret (V.bool false) []))
              (.ite (pd
                  (∃ K1 K2 K3,
                    TwiceF (madeRun b [] []).fst (madeRun c [] []).fst ((valsOf (madeRun a [] []).fst (madeRun b [] []).fst (madeRun a [] []).snd).getD []) ((valsOf (madeRun b [] []).fst (madeRun c [] []).fst ((valsOf (madeRun a [] []).fst (madeRun b [] []).fst (madeRun a [] []).snd).getD [])).getD [])
                      ((valsOf (madeRun a [] []).fst (madeRun c [] []).fst (madeRun a [] []).snd).getD []) K1 K2 K3) &&
                decide ((0 : Int) ≤ (0 : Int)))
               (.ret (Out.ret (V.bool true) []))
               .fail))
             (.ret (Out.ret (V.bool false) [])))
            (.ret (Out.ret (V.bool false) [])))
           .fail)
          (.ite (decide ((madeRun a [] []).fst.length ≤ (65536 : Nat)) && decide ((madeRun c [] []).fst.length ≤ (65536 : Nat)))
           (.ite ((valsOf (madeRun a [] []).fst (madeRun c [] []).fst (madeRun a [] []).snd).isSome)
            (.ret (Out.ret (V.bool false) []))
            (.ret (Out.ret (V.bool false) [])))
           .fail))
         .fail)
        (.ite (decide ((madeRun b [] []).fst.length ≤ (65536 : Nat)) && decide ((madeRun c [] []).fst.length ≤ (65536 : Nat)))
         (.ite ((valsOf (madeRun b [] []).fst (madeRun c [] []).fst []).isSome)
          (.ite (decide ((madeRun a [] []).fst.length ≤ (65536 : Nat)) && decide ((madeRun c [] []).fst.length ≤ (65536 : Nat)))
           (.ite ((valsOf (madeRun a [] []).fst (madeRun c [] []).fst (madeRun a [] []).snd).isSome)
            (.ret (Out.ret (V.bool false) []))
            (.ret (Out.ret (V.bool false) [])))
           .fail)
          (.ite (decide ((madeRun a [] []).fst.length ≤ (65536 : Nat)) && decide ((madeRun c [] []).fst.length ≤ (65536 : Nat)))
           (.ite ((valsOf (madeRun a [] []).fst (madeRun c [] []).fst (madeRun a [] []).snd).isSome)
            (.ret (Out.ret (V.bool false) []))
            (.ret (Out.ret (V.bool false) [])))
           .fail))
         .fail))
       .fail)
      .fail)
     .fail)
    .fail))
  (.ret (Out.ret (V.bool true) [])))
 (.ret (Out.ret (V.bool true) [])))).eval := by kernel_rfl
noncomputable def mTwice : Model
  | [.seq 70 a, .seq 70 b, .seq 70 c], [] => .test (pd (Ons a ∧ Ons b ∧ Ons c)) (.ret (.ret (.bool true) []))
  | _, _ => .fail
theorem twice_holds : Holds T tG Try.prog 7 mTwice := by
  refine holds_of 7 CL okL L7 (fn := Try.f7) (c := (Try.f7.body).getD .skip) (by kernel_rfl) (by kernel_rfl) (by kernel_rfl) (by kernel_rfl) mTwice ?_
  intro args objs out h
  unfold mTwice at h
  split at h
  · rename_i a b c
    obtain ⟨h1, h2⟩ := eval_test h
    rw [pd_iff] at h1
    obtain ⟨ha, hb, hc⟩ := h1
    refine ⟨loops_one (by kernel_rfl) twice_law, ?_⟩
    show (runF E7 false Try.f7 _ _).eval = _
    rw [twice_run, ← h2]
    by_cases la : (a.length : Int) > 60
    · simp [eval_ite, la, eval_ret]
    · by_cases lb : (b.length : Int) > 60
      · simp [eval_ite, la, lb, eval_ret]
      · by_cases lc : (c.length : Int) > 60
        · simp [eval_ite, la, lb, lc, eval_ret]
        · have kl := (kept_len a []).2
          have ml := (kept_len b []).2
          have nl := (kept_len c []).2
          simp only [List.length_nil, Nat.zero_add] at kl ml nl
          have fk := kept_on ha
          have fm := kept_on hb
          have fn := kept_on hc
          obtain ⟨K, hK⟩ : ∃ K, K = keptOf a [] := ⟨_, rfl⟩
          obtain ⟨M, hM⟩ : ∃ M, M = keptOf b [] := ⟨_, rfl⟩
          obtain ⟨N, hN⟩ : ∃ N, N = keptOf c [] := ⟨_, rfl⟩
          rw [made_kept a, made_kept b, made_kept c, ← hK, ← hM, ← hN]
          rw [← hK] at kl fk
          rw [← hM] at ml fm
          rw [← hN] at nl fn
          have hv1 := vals_kept fk fm
          have hv3 := vals_kept fk fn
          have hv2 := vals_w (ws := M.map (carried K)) (K := M) (M := N) (by simp) (okAll_carried fk M fm) fn
          have hp : pd (∃ K1 K2 K3, TwiceF (M.map onVar) (N.map onVar) (M.map (carried K)) (N.map (carriedW (M.map (carried K)) M)) (N.map (carried K)) K1 K2 K3) = true := pd_iff.2 ⟨K, M, N, fk, fm, fn, rfl, rfl, rfl, rfl, rfl, by omega, by omega⟩
          simp only [eval_ite, la, lb, lc, hv1, hv2, hv3, hp, List.length_map, show a.length ≤ 65536 by omega, show b.length ≤ 65536 by omega, show c.length ≤ 65536 by omega, show K.length ≤ 65536 by omega, show M.length ≤ 65536 by omega, show N.length ≤ 65536 by omega, decide_true, decide_false, Bool.not_false, Bool.and_self, if_true, Bool.false_eq_true, if_false, Option.isSome_some, Option.getD_some, bne_self_eq_false, show (0 : Int) ≤ 0 from Int.le_refl 0]
  · simp [Tr.eval] at h

/- CarryOrders. -/
theorem carried_mem {K : List V} (hd : Diff K) {x z : V} (hx : x ∈ K) (hs : sameOn z x = true) : carried K z = onVal x := by
  unfold carried
  cases h : findIx (sameOn z) K 0 with
  | none =>
    have := findIx_none h x hx
    rw [hs] at this
    cases this
  | some k =>
    obtain ⟨_, y, hy, hs2⟩ := findIx_some h
    simp only [Nat.sub_zero] at hy
    have ex : K.getD k .top = y := by rw [List.getD_eq_getElem?_getD, hy]; rfl
    have hyK : y ∈ K := List.mem_of_getElem? hy
    simp only [sameOn, Bool.and_eq_true, beq_iff_eq] at hs hs2
    have hn : onNm x = onNm y := by rw [← hs.1, hs2.1]
    simp only
    rw [ex]
    obtain ⟨i, hi⟩ := List.getElem?_of_mem hx
    obtain ⟨hi1, hi2⟩ := List.getElem?_eq_some_iff.1 hi
    obtain ⟨hk1, hk2⟩ := List.getElem?_eq_some_iff.1 hy
    have hp := List.pairwise_iff_getElem.1 hd
    rcases Nat.lt_trichotomy i k with h | h | h
    · exact absurd (by rw [hi2, hk2]; exact hn) (hp i k hi1 hk1 h)
    · subst h
      rw [← hi2, ← hk2]
    · exact absurd (by rw [hi2, hk2]; exact hn.symm) (hp k i hk1 hi1 h)
theorem carried_no {K : List V} {z : V} (h : ∀ x ∈ K, sameOn z x = false) : carried K z = .agg [.int .i64 (onT z), .int .i64 0] := by
  unfold carried
  cases hq : findIx (sameOn z) K 0 with
  | none => rfl
  | some k =>
    obtain ⟨_, y, hy, hs⟩ := findIx_some hq
    simp only [Nat.sub_zero] at hy
    rw [h y (List.mem_of_getElem? hy)] at hs
    cases hs
theorem diff_turn {K : List V} (h : Diff K) (n : Nat) : Diff (K.drop n ++ K.take n) := by
  have h1 : Diff (K.take n ++ K.drop n) := by rw [List.take_append_drop]; exact h
  unfold Diff at *
  rw [List.pairwise_append] at h1 ⊢
  exact ⟨h1.2.1, h1.1, fun a ha b hb he => h1.2.2 b hb a ha he.symm⟩
theorem mem_turn {K : List V} {n : Nat} {x : V} : x ∈ K.drop n ++ K.take n ↔ x ∈ K := by
  conv => rhs; rw [← List.take_append_drop n K]
  rw [List.mem_append, List.mem_append, or_comm]
theorem carried_turn {K : List V} (hd : Diff K) (n : Nat) (z : V) : carried (K.drop n ++ K.take n) z = carried K z := by
  by_cases h : ∃ x ∈ K, sameOn z x = true
  · obtain ⟨x, hx, hs⟩ := h
    rw [carried_mem hd hx hs, carried_mem (diff_turn hd n) (mem_turn.2 hx) hs]
  · have h1 : ∀ x ∈ K, sameOn z x = false := fun x hx => by
      cases hq : sameOn z x with
      | false => rfl
      | true => exact absurd ⟨x, hx, hq⟩ h
    rw [carried_no h1, carried_no (fun x hx => h1 x (mem_turn.1 hx))]
theorem eqRun_refl {p : V → V → Bool} (h : ∀ v, p v v = true) : ∀ (l : List V), eqRun p l l = true
  | [] => rfl
  | v :: r => by simp only [eqRun, h v, eqRun_refl h r, Bool.and_self]
theorem sameA_refl (v : V) : sameA v v = true := by simp [sameA]
theorem orders_run (a b : List V) (x y : Int) : (runF (EF 6 CL L0) false Try.f6 [.seq 70 a, .seq 70 b, .int .u8 x, .int .u8 y] []).eval = ((Tr.ite (!decide ((↑a.length : Int) > (60 : Int)))
 (.ite (!decide ((↑b.length : Int) > (60 : Int)))
  (.ite (!(↑a.length : Int) == (0 : Int))
   (.ite ((↑b.length : Int) == (0 : Int))
    (.ret (Out.ret (V.bool true) []))
    (.ite (decide (a.length ≤ (65536 : Nat)))
     (.ite (decide (b.length ≤ (65536 : Nat)))
      (.ite (decide ((↑(madeRun a [] []).fst.length : Int) ≠ (0 : Int)))
       (.ite (decide ((↑(madeRun b [] []).fst.length : Int) ≠ (0 : Int)))
        (.ite (decide ((madeRun a [] []).fst.length ≤ (65536 : Nat)) && decide ((madeRun b [] []).fst.length ≤ (65536 : Nat)))
         (.ite ((valsOf (madeRun a [] []).fst (madeRun b [] []).fst (madeRun a [] []).snd).isSome)
          (.ite (decide ((0 : Int) ≤ (IntKind.i64.wrap x).tmod (↑(madeRun a [] []).fst.length : Int)) && decide ((IntKind.i64.wrap x).tmod (↑(madeRun a [] []).fst.length : Int) ≤ (↑(madeRun a [] []).fst.length : Int)) && decide ((madeRun a [] []).fst.length ≤ (65536 : Nat)))
           (.ite (decide ((0 : Int) ≤ (IntKind.i64.wrap y).tmod (↑(madeRun b [] []).fst.length : Int)) && decide ((IntKind.i64.wrap y).tmod (↑(madeRun b [] []).fst.length : Int) ≤ (↑(madeRun b [] []).fst.length : Int)) && decide ((madeRun b [] []).fst.length ≤ (65536 : Nat)))
            (.ite (decide ((0 : Int) ≤ (IntKind.i64.wrap x).tmod (↑(madeRun a [] []).fst.length : Int)) && decide ((IntKind.i64.wrap x).tmod (↑(madeRun a [] []).fst.length : Int) ≤ (↑(madeRun a [] []).snd.length : Int)) && decide ((↑(madeRun a [] []).snd.length : Int) ≤ (↑(madeRun a [] []).snd.length : Int)))
             (.ite (decide (nat_lit 0 + (List.take ((↑(madeRun a [] []).snd.length : Int).toNat - ((IntKind.i64.wrap x).tmod (↑(madeRun a [] []).fst.length : Int)).toNat) (List.drop ((IntKind.i64.wrap x).tmod (↑(madeRun a [] []).fst.length : Int)).toNat (madeRun a [] []).snd)).length ≤ nat_lit 4294967296))
              (.ite (decide ((0 : Int) ≤ (0 : Int)) && decide ((0 : Int) ≤ (IntKind.i64.wrap x).tmod (↑(madeRun a [] []).fst.length : Int)) && decide ((IntKind.i64.wrap x).tmod (↑(madeRun a [] []).fst.length : Int) ≤ (↑(madeRun a [] []).snd.length : Int)))
               (.ite (decide
                 (([] ++ List.take ((↑(madeRun a [] []).snd.length : Int).toNat - ((IntKind.i64.wrap x).tmod (↑(madeRun a [] []).fst.length : Int)).toNat) (List.drop ((IntKind.i64.wrap x).tmod (↑(madeRun a [] []).fst.length : Int)).toNat (madeRun a [] []).snd)).length +
                     (List.take (((IntKind.i64.wrap x).tmod (↑(madeRun a [] []).fst.length : Int)).toNat - Int.toNat (0 : Int)) (List.drop (Int.toNat (0 : Int)) (madeRun a [] []).snd)).length ≤
                   nat_lit 4294967296))
                (.ite (decide ((List.drop ((IntKind.i64.wrap x).tmod (↑(madeRun a [] []).fst.length : Int)).toNat (madeRun a [] []).fst ++ List.take ((IntKind.i64.wrap x).tmod (↑(madeRun a [] []).fst.length : Int)).toNat (madeRun a [] []).fst).length ≤ (65536 : Nat)) &&
                  decide ((List.drop ((IntKind.i64.wrap y).tmod (↑(madeRun b [] []).fst.length : Int)).toNat (madeRun b [] []).fst ++ List.take ((IntKind.i64.wrap y).tmod (↑(madeRun b [] []).fst.length : Int)).toNat (madeRun b [] []).fst).length ≤ (65536 : Nat)))
                 (.ite ((valsOf (List.drop ((IntKind.i64.wrap x).tmod (↑(madeRun a [] []).fst.length : Int)).toNat (madeRun a [] []).fst ++ List.take ((IntKind.i64.wrap x).tmod (↑(madeRun a [] []).fst.length : Int)).toNat (madeRun a [] []).fst)
                     (List.drop ((IntKind.i64.wrap y).tmod (↑(madeRun b [] []).fst.length : Int)).toNat (madeRun b [] []).fst ++ List.take ((IntKind.i64.wrap y).tmod (↑(madeRun b [] []).fst.length : Int)).toNat (madeRun b [] []).fst)
                     ([] ++ List.take ((↑(madeRun a [] []).snd.length : Int).toNat - ((IntKind.i64.wrap x).tmod (↑(madeRun a [] []).fst.length : Int)).toNat) (List.drop ((IntKind.i64.wrap x).tmod (↑(madeRun a [] []).fst.length : Int)).toNat (madeRun a [] []).snd) ++
                       List.take (((IntKind.i64.wrap x).tmod (↑(madeRun a [] []).fst.length : Int)).toNat - Int.toNat (0 : Int)) (List.drop (Int.toNat (0 : Int)) (madeRun a [] []).snd))).isSome)
                  (.ite ((↑((valsOf (madeRun a [] []).fst (madeRun b [] []).fst (madeRun a [] []).snd).getD []).length : Int) == (↑(madeRun b [] []).fst.length : Int))
                   (.ite (decide ((0 : Int) ≤ (IntKind.i64.wrap y).tmod (↑(madeRun b [] []).fst.length : Int)) && decide ((IntKind.i64.wrap y).tmod (↑(madeRun b [] []).fst.length : Int) ≤ (↑((valsOf (madeRun a [] []).fst (madeRun b [] []).fst (madeRun a [] []).snd).getD []).length : Int)) &&
                     decide ((↑((valsOf (madeRun a [] []).fst (madeRun b [] []).fst (madeRun a [] []).snd).getD []).length : Int) ≤ (↑((valsOf (madeRun a [] []).fst (madeRun b [] []).fst (madeRun a [] []).snd).getD []).length : Int)))
                    (.ite (decide
                      (nat_lit 0 +
                          (List.take ((↑((valsOf (madeRun a [] []).fst (madeRun b [] []).fst (madeRun a [] []).snd).getD []).length : Int).toNat - ((IntKind.i64.wrap y).tmod (↑(madeRun b [] []).fst.length : Int)).toNat)
                              (List.drop ((IntKind.i64.wrap y).tmod (↑(madeRun b [] []).fst.length : Int)).toNat ((valsOf (madeRun a [] []).fst (madeRun b [] []).fst (madeRun a [] []).snd).getD []))).length ≤
                        nat_lit 4294967296))
                     (.ite (decide ((0 : Int) ≤ (0 : Int)) && decide ((0 : Int) ≤ (IntKind.i64.wrap y).tmod (↑(madeRun b [] []).fst.length : Int)) && decide ((IntKind.i64.wrap y).tmod (↑(madeRun b [] []).fst.length : Int) ≤ (↑((valsOf (madeRun a [] []).fst (madeRun b [] []).fst (madeRun a [] []).snd).getD []).length : Int)))
                      (.ite (decide
                        (([] ++
                                List.take ((↑((valsOf (madeRun a [] []).fst (madeRun b [] []).fst (madeRun a [] []).snd).getD []).length : Int).toNat - ((IntKind.i64.wrap y).tmod (↑(madeRun b [] []).fst.length : Int)).toNat)
                                  (List.drop ((IntKind.i64.wrap y).tmod (↑(madeRun b [] []).fst.length : Int)).toNat ((valsOf (madeRun a [] []).fst (madeRun b [] []).fst (madeRun a [] []).snd).getD []))).length +
                            (List.take (((IntKind.i64.wrap y).tmod (↑(madeRun b [] []).fst.length : Int)).toNat - Int.toNat (0 : Int)) (List.drop (Int.toNat (0 : Int)) ((valsOf (madeRun a [] []).fst (madeRun b [] []).fst (madeRun a [] []).snd).getD []))).length ≤
                          nat_lit 4294967296))
                       (.ite (Nat.beq (44 : TypeId) (44 : TypeId) && Nat.beq (44 : TypeId) (44 : TypeId) &&
                         decide
                           (((valsOf (List.drop ((IntKind.i64.wrap x).tmod (↑(madeRun a [] []).fst.length : Int)).toNat (madeRun a [] []).fst ++ List.take ((IntKind.i64.wrap x).tmod (↑(madeRun a [] []).fst.length : Int)).toNat (madeRun a [] []).fst)
                                     (List.drop ((IntKind.i64.wrap y).tmod (↑(madeRun b [] []).fst.length : Int)).toNat (madeRun b [] []).fst ++ List.take ((IntKind.i64.wrap y).tmod (↑(madeRun b [] []).fst.length : Int)).toNat (madeRun b [] []).fst)
                                     ([] ++ List.take ((↑(madeRun a [] []).snd.length : Int).toNat - ((IntKind.i64.wrap x).tmod (↑(madeRun a [] []).fst.length : Int)).toNat) (List.drop ((IntKind.i64.wrap x).tmod (↑(madeRun a [] []).fst.length : Int)).toNat (madeRun a [] []).snd) ++
                                       List.take (((IntKind.i64.wrap x).tmod (↑(madeRun a [] []).fst.length : Int)).toNat - Int.toNat (0 : Int)) (List.drop (Int.toNat (0 : Int)) (madeRun a [] []).snd))).getD
                                 []).length ≤
                             (65536 : Nat)))
                        (.ite (decide
                            (((valsOf (List.drop ((IntKind.i64.wrap x).tmod (↑(madeRun a [] []).fst.length : Int)).toNat (madeRun a [] []).fst ++ List.take ((IntKind.i64.wrap x).tmod (↑(madeRun a [] []).fst.length : Int)).toNat (madeRun a [] []).fst)
                                      (List.drop ((IntKind.i64.wrap y).tmod (↑(madeRun b [] []).fst.length : Int)).toNat (madeRun b [] []).fst ++ List.take ((IntKind.i64.wrap y).tmod (↑(madeRun b [] []).fst.length : Int)).toNat (madeRun b [] []).fst)
                                      ([] ++ List.take ((↑(madeRun a [] []).snd.length : Int).toNat - ((IntKind.i64.wrap x).tmod (↑(madeRun a [] []).fst.length : Int)).toNat) (List.drop ((IntKind.i64.wrap x).tmod (↑(madeRun a [] []).fst.length : Int)).toNat (madeRun a [] []).snd) ++
                                        List.take (((IntKind.i64.wrap x).tmod (↑(madeRun a [] []).fst.length : Int)).toNat - Int.toNat (0 : Int)) (List.drop (Int.toNat (0 : Int)) (madeRun a [] []).snd))).getD
                                  []).length =
                              ([] ++
                                    List.take ((↑((valsOf (madeRun a [] []).fst (madeRun b [] []).fst (madeRun a [] []).snd).getD []).length : Int).toNat - ((IntKind.i64.wrap y).tmod (↑(madeRun b [] []).fst.length : Int)).toNat)
                                      (List.drop ((IntKind.i64.wrap y).tmod (↑(madeRun b [] []).fst.length : Int)).toNat ((valsOf (madeRun a [] []).fst (madeRun b [] []).fst (madeRun a [] []).snd).getD [])) ++
                                  List.take (((IntKind.i64.wrap y).tmod (↑(madeRun b [] []).fst.length : Int)).toNat - Int.toNat (0 : Int)) (List.drop (Int.toNat (0 : Int)) ((valsOf (madeRun a [] []).fst (madeRun b [] []).fst (madeRun a [] []).snd).getD []))).length) &&
                          eqRun sameA
                            ((valsOf (List.drop ((IntKind.i64.wrap x).tmod (↑(madeRun a [] []).fst.length : Int)).toNat (madeRun a [] []).fst ++ List.take ((IntKind.i64.wrap x).tmod (↑(madeRun a [] []).fst.length : Int)).toNat (madeRun a [] []).fst)
                                  (List.drop ((IntKind.i64.wrap y).tmod (↑(madeRun b [] []).fst.length : Int)).toNat (madeRun b [] []).fst ++ List.take ((IntKind.i64.wrap y).tmod (↑(madeRun b [] []).fst.length : Int)).toNat (madeRun b [] []).fst)
                                  ([] ++ List.take ((↑(madeRun a [] []).snd.length : Int).toNat - ((IntKind.i64.wrap x).tmod (↑(madeRun a [] []).fst.length : Int)).toNat) (List.drop ((IntKind.i64.wrap x).tmod (↑(madeRun a [] []).fst.length : Int)).toNat (madeRun a [] []).snd) ++
                                    List.take (((IntKind.i64.wrap x).tmod (↑(madeRun a [] []).fst.length : Int)).toNat - Int.toNat (0 : Int)) (List.drop (Int.toNat (0 : Int)) (madeRun a [] []).snd))).getD
                              [])
                            ([] ++
                                List.take ((↑((valsOf (madeRun a [] []).fst (madeRun b [] []).fst (madeRun a [] []).snd).getD []).length : Int).toNat - ((IntKind.i64.wrap y).tmod (↑(madeRun b [] []).fst.length : Int)).toNat)
                                  (List.drop ((IntKind.i64.wrap y).tmod (↑(madeRun b [] []).fst.length : Int)).toNat ((valsOf (madeRun a [] []).fst (madeRun b [] []).fst (madeRun a [] []).snd).getD [])) ++
                              List.take (((IntKind.i64.wrap y).tmod (↑(madeRun b [] []).fst.length : Int)).toNat - Int.toNat (0 : Int)) (List.drop (Int.toNat (0 : Int)) ((valsOf (madeRun a [] []).fst (madeRun b [] []).fst (madeRun a [] []).snd).getD []))))
                         (.ret (Out.ret (V.bool true) []))
                         (.ret (Out.ret (V.bool false) [])))
                        .fail)
                       .fail)
                      .fail)
                     .fail)
                    .fail)
                   (.ret (Out.ret (V.bool false) [])))
                  (.ret (Out.ret (V.bool false) [])))
                 .fail)
                .fail)
               .fail)
              .fail)
             .fail)
            .fail)
           .fail)
          (.ite (decide ((0 : Int) ≤ (IntKind.i64.wrap x).tmod (↑(madeRun a [] []).fst.length : Int)) && decide ((IntKind.i64.wrap x).tmod (↑(madeRun a [] []).fst.length : Int) ≤ (↑(madeRun a [] []).fst.length : Int)) && decide ((madeRun a [] []).fst.length ≤ (65536 : Nat)))
           (.ite (decide ((0 : Int) ≤ (IntKind.i64.wrap y).tmod (↑(madeRun b [] []).fst.length : Int)) && decide ((IntKind.i64.wrap y).tmod (↑(madeRun b [] []).fst.length : Int) ≤ (↑(madeRun b [] []).fst.length : Int)) && decide ((madeRun b [] []).fst.length ≤ (65536 : Nat)))
            (.ite (decide ((0 : Int) ≤ (IntKind.i64.wrap x).tmod (↑(madeRun a [] []).fst.length : Int)) && decide ((IntKind.i64.wrap x).tmod (↑(madeRun a [] []).fst.length : Int) ≤ (↑(madeRun a [] []).snd.length : Int)) && decide ((↑(madeRun a [] []).snd.length : Int) ≤ (↑(madeRun a [] []).snd.length : Int)))
             (.ite (decide (nat_lit 0 + (List.take ((↑(madeRun a [] []).snd.length : Int).toNat - ((IntKind.i64.wrap x).tmod (↑(madeRun a [] []).fst.length : Int)).toNat) (List.drop ((IntKind.i64.wrap x).tmod (↑(madeRun a [] []).fst.length : Int)).toNat (madeRun a [] []).snd)).length ≤ nat_lit 4294967296))
              (.ite (decide ((0 : Int) ≤ (0 : Int)) && decide ((0 : Int) ≤ (IntKind.i64.wrap x).tmod (↑(madeRun a [] []).fst.length : Int)) && decide ((IntKind.i64.wrap x).tmod (↑(madeRun a [] []).fst.length : Int) ≤ (↑(madeRun a [] []).snd.length : Int)))
               (.ite (decide
                 (([] ++ List.take ((↑(madeRun a [] []).snd.length : Int).toNat - ((IntKind.i64.wrap x).tmod (↑(madeRun a [] []).fst.length : Int)).toNat) (List.drop ((IntKind.i64.wrap x).tmod (↑(madeRun a [] []).fst.length : Int)).toNat (madeRun a [] []).snd)).length +
                     (List.take (((IntKind.i64.wrap x).tmod (↑(madeRun a [] []).fst.length : Int)).toNat - Int.toNat (0 : Int)) (List.drop (Int.toNat (0 : Int)) (madeRun a [] []).snd)).length ≤
                   nat_lit 4294967296))
                (.ite (decide ((List.drop ((IntKind.i64.wrap x).tmod (↑(madeRun a [] []).fst.length : Int)).toNat (madeRun a [] []).fst ++ List.take ((IntKind.i64.wrap x).tmod (↑(madeRun a [] []).fst.length : Int)).toNat (madeRun a [] []).fst).length ≤ (65536 : Nat)) &&
                  decide ((List.drop ((IntKind.i64.wrap y).tmod (↑(madeRun b [] []).fst.length : Int)).toNat (madeRun b [] []).fst ++ List.take ((IntKind.i64.wrap y).tmod (↑(madeRun b [] []).fst.length : Int)).toNat (madeRun b [] []).fst).length ≤ (65536 : Nat)))
                 (.ite ((valsOf (List.drop ((IntKind.i64.wrap x).tmod (↑(madeRun a [] []).fst.length : Int)).toNat (madeRun a [] []).fst ++ List.take ((IntKind.i64.wrap x).tmod (↑(madeRun a [] []).fst.length : Int)).toNat (madeRun a [] []).fst)
                     (List.drop ((IntKind.i64.wrap y).tmod (↑(madeRun b [] []).fst.length : Int)).toNat (madeRun b [] []).fst ++ List.take ((IntKind.i64.wrap y).tmod (↑(madeRun b [] []).fst.length : Int)).toNat (madeRun b [] []).fst)
                     ([] ++ List.take ((↑(madeRun a [] []).snd.length : Int).toNat - ((IntKind.i64.wrap x).tmod (↑(madeRun a [] []).fst.length : Int)).toNat) (List.drop ((IntKind.i64.wrap x).tmod (↑(madeRun a [] []).fst.length : Int)).toNat (madeRun a [] []).snd) ++
                       List.take (((IntKind.i64.wrap x).tmod (↑(madeRun a [] []).fst.length : Int)).toNat - Int.toNat (0 : Int)) (List.drop (Int.toNat (0 : Int)) (madeRun a [] []).snd))).isSome)
                  (.ret (Out.ret (V.bool false) []))
                  (.ret (Out.ret (V.bool false) [])))
                 .fail)
                .fail)
               .fail)
              .fail)
             .fail)
            .fail)
           .fail))
         .fail)
        .fail)
       .fail)
      .fail)
     .fail))
   (.ret (Out.ret (V.bool true) [])))
  (.ret (Out.ret (V.bool true) [])))
 (.ret (Out.ret (V.bool true) [])))).eval := by kernel_rfl
noncomputable def mOrders : Model
  | [.seq 70 a, .seq 70 b, .int .u8 x, .int .u8 y], [] => .test (pd (Ons a ∧ Ons b ∧ (0 ≤ x ∧ x ≤ 255) ∧ (0 ≤ y ∧ y ≤ 255))) (.ret (.ret (.bool true) []))
  | _, _ => .fail
theorem orders_holds : Holds T tG Try.prog 6 mOrders := by
  refine holds_of 6 CL okL L0 (fn := Try.f6) (c := (Try.f6.body).getD .skip) (by kernel_rfl) (by kernel_rfl) (by kernel_rfl) (by kernel_rfl) mOrders ?_
  intro args objs out h
  unfold mOrders at h
  split at h
  · rename_i a b x y
    obtain ⟨h1, h2⟩ := eval_test h
    rw [pd_iff] at h1
    obtain ⟨ha, hb, ⟨hx0, hx1⟩, ⟨hy0, hy1⟩⟩ := h1
    refine ⟨loops_none (by kernel_rfl), ?_⟩
    rw [orders_run, ← h2]
    by_cases la : (a.length : Int) > 60
    · simp [eval_ite, la, eval_ret]
    · by_cases lb : (b.length : Int) > 60
      · simp [eval_ite, la, lb, eval_ret]
      · by_cases ea : a = []
        · subst ea
          simp [eval_ite, lb, eval_ret]
        · by_cases eb : b = []
          · subst eb
            have : ((a.length : Int) == 0) = false := by simp [ea]
            simp [eval_ite, la, this, eval_ret]
          · have kl := (kept_len a []).2
            have ml := (kept_len b []).2
            simp only [List.length_nil, Nat.zero_add] at kl ml
            have kp := kept_pos a ea
            have mp := kept_pos b eb
            have fk := kept_on ha
            have fm := kept_on hb
            have dk : Diff (keptOf a []) := kept_diff a [] (by simp [Diff])
            obtain ⟨K, hK⟩ : ∃ K, K = keptOf a [] := ⟨_, rfl⟩
            obtain ⟨M, hM⟩ : ∃ M, M = keptOf b [] := ⟨_, rfl⟩
            rw [made_kept a, made_kept b, ← hK, ← hM]
            rw [← hK] at kl kp fk dk
            rw [← hM] at ml mp fm
            have wx : IntKind.i64.wrap x = x := wrap_i64 (by omega) (by omega)
            have wy : IntKind.i64.wrap y = y := wrap_i64 (by omega) (by omega)
            have tx : x.tmod (K.length : Int) = x % (K.length : Int) := Int.tmod_eq_emod_of_nonneg hx0
            have ty : y.tmod (M.length : Int) = y % (M.length : Int) := Int.tmod_eq_emod_of_nonneg hy0
            have ea2 : ((a.length : Int) == 0) = false := by simp [ea]
            have eb2 : ((b.length : Int) == 0) = false := by simp [eb]
            simp only [wx, wy, List.length_map, tx, ty]
            obtain ⟨m, hm⟩ : ∃ m : Nat, x % (K.length : Int) = m := ⟨(x % (K.length : Int)).toNat, by rw [Int.toNat_of_nonneg (Int.emod_nonneg _ (by omega))]⟩
            obtain ⟨n, hn⟩ : ∃ n : Nat, y % (M.length : Int) = n := ⟨(y % (M.length : Int)).toNat, by rw [Int.toNat_of_nonneg (Int.emod_nonneg _ (by omega))]⟩
            have mlt : m < K.length := by have := Int.emod_lt_of_pos x (show (0 : Int) < K.length by omega); omega
            have nlt : n < M.length := by have := Int.emod_lt_of_pos y (show (0 : Int) < M.length by omega); omega
            rw [hm, hn]
            have hv1 := vals_kept fk fm
            have q1 : ∀ (f : V → V), List.take (K.length - m) (List.drop m (K.map f)) = (K.map f).drop m := fun f => List.take_of_length_le (by simp)
            have q2 : ∀ (f : V → V), List.take (m - Int.toNat 0) (List.drop (Int.toNat 0) (K.map f)) = (K.map f).take m := fun f => by simp
            have q3 : ∀ (f : V → V), List.take (M.length - n) (List.drop n (M.map f)) = (M.map f).drop n := fun f => List.take_of_length_le (by simp)
            have q4 : ∀ (f : V → V), List.take (n - Int.toNat 0) (List.drop (Int.toNat 0) (M.map f)) = (M.map f).take n := fun f => by simp
            have p1 : ∀ (f : V → V) (L : List V) (j : Nat), (L.map f).drop j ++ (L.map f).take j = (L.drop j ++ L.take j).map f := fun f L j => by simp
            have hv2 := vals_kept (K := K.drop m ++ K.take m) (M := M.drop n ++ M.take n) (fun x hx => fk x (mem_turn.1 hx)) (fun x hx => fm x (mem_turn.1 hx))
            have hv3 : (M.drop n ++ M.take n).map (carried (K.drop m ++ K.take m)) = (M.drop n ++ M.take n).map (carried K) := List.map_congr_left fun z _ => carried_turn dk m z
            rw [hv3] at hv2
            have r1 : ∀ (f : V → V), ((K.map f).drop m).length ≤ 60 := fun f => by simp; omega
            have r2 : ∀ (f : V → V), ((K.map f).take m).length ≤ 60 := fun f => by simp; omega
            have r3 : ∀ (f : V → V), ((M.map f).drop n).length ≤ 60 := fun f => by simp; omega
            have r4 : ∀ (f : V → V), ((M.map f).take n).length ≤ 60 := fun f => by simp; omega
            have s1 : (K.drop m ++ K.take m).length ≤ 65536 := by simp; omega
            have s2 : (M.drop n ++ M.take n).length ≤ 65536 := by simp; omega
            have u1 : ((K.length : Int) ≠ 0) := by omega
            have u2 : ((M.length : Int) ≠ 0) := by omega
            have v1 : ∀ (f g : V → V), ((K.map f).drop m).length + ((K.map g).take m).length ≤ 4294967296 := fun f g => by have := r1 f; have := r2 g; omega
            have v2 : ∀ (f : V → V), 0 + ((K.map f).drop m).length ≤ 4294967296 := fun f => by have := r1 f; omega
            have v3 : ∀ (f g : V → V), ((M.map f).drop n).length + ((M.map g).take n).length ≤ 4294967296 := fun f g => by have := r3 f; have := r4 g; omega
            have v4 : ∀ (f : V → V), 0 + ((M.map f).drop n).length ≤ 4294967296 := fun f => by have := r3 f; omega
            simp only [eval_ite, la, lb, ea2, eb2, u1, u2, hv1, q1, q2, q3, q4, Int.toNat_natCast, List.nil_append, v1, v2, v3, v4, p1, hv2, s1, s2, List.length_map, show a.length ≤ 65536 by omega, show b.length ≤ 65536 by omega, show K.length ≤ 65536 by omega, show M.length ≤ 65536 by omega, show (m : Int) ≤ (K.length : Int) by omega, show (n : Int) ≤ (M.length : Int) by omega, show (0 : Int) ≤ (m : Int) by omega, show (0 : Int) ≤ (n : Int) by omega, decide_true, decide_false, Bool.not_false, Bool.not_true, Bool.and_self, if_true, Bool.false_eq_true, if_false, Option.isSome_some, Option.getD_some, bne_self_eq_false, beq_self_eq_true, show (0 : Int) ≤ 0 from Int.le_refl 0, ne_eq, not_false_eq_true, eqRun_refl sameA_refl, Nat.le_refl, Int.le_refl, show Nat.beq 44 44 = true from rfl]
  · simp [Tr.eval] at h
end Go.Proofs.Ytecplbjggbelbaa
