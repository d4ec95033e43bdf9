/- Carry: CarryRefuses. -/
import Derived.Test.YtecplbjggbelbaaCT
namespace Go.Proofs.Ytecplbjggbelbaa
open Go Go.AH
set_option maxRecDepth 100000
def mMadeO : Model
  | [.seq 70 us], [] => .test (decide (us.length ≤ 65536)) (.ret (.ret (.tup [.full 48 0 0 (madeRun us [] []).1.length, .full 44 1 0 (madeRun us [] []).2.length]) [.row false 0 48 (madeRun us [] []).1, .row false 0 44 (madeRun us [] []).2]))
  | _, _ => .fail
theorem madeO_run (us : List V) : (runF E19 true Try.f19 [.seq 70 us] []).eval = ((Tr.ite (decide ((0 : Int) ≤ (0 : Int)) && decide (us.length ≤ (65536 : Nat)) && decide ((↑(nat_lit 0) : Int) ≤ (0 : Int)) && decide ((↑(nat_lit 0) : Int) ≤ (0 : Int)) && decide (nat_lit 0 = nat_lit 0) && decide (nat_lit 0 = nat_lit 0))
 (.ret (Out.ret (V.tup [V.full (nat_lit 48) (nat_lit 0) (nat_lit 0) (madeRun (List.drop (Int.toNat (0 : Int)) us) [] []).fst.length, V.full (nat_lit 44) (nat_lit 1) (nat_lit 0) (madeRun (List.drop (Int.toNat (0 : Int)) us) [] []).snd.length])
   [Ob.row false (nat_lit 0) (nat_lit 48) (madeRun (List.drop (Int.toNat (0 : Int)) us) [] []).fst, Ob.row false (nat_lit 0) (nat_lit 44) (madeRun (List.drop (Int.toNat (0 : Int)) us) [] []).snd]))
 .fail)).eval := by kernel_rfl
theorem madeO_holds : Holds T tG Try.prog 19 mMadeO := by
  refine fn_sound (E := E19) (fn := Try.f19) (c := (Try.f19.body).getD .skip) tyOk (lookM_holds [(23, mFind)] (ok_cons find_holds ok_nil)) (by kernel_rfl) (by kernel_rfl) (by kernel_rfl) (by kernel_rfl) true mMadeO ?_
  intro args objs out h
  unfold mMadeO at h
  split at h
  · rename_i us
    obtain ⟨h1, h2⟩ := eval_test h
    refine ⟨loops_one (by kernel_rfl) made_law, ?_⟩
    rw [madeO_run, ← h2]
    simp [eval_ite, eval_ret, of_decide_eq_true h1]
  · simp [Tr.eval] at h
theorem okAll_false : ∀ {ws vs : List V} {k : Nat}, k < ws.length → k < vs.length → okV (ws.getD k .top) (vs.getD k .top) = false → okAll ws vs = false
  | [], _, _, h, _, _ => by simp at h
  | _ :: _, [], _, _, h, _ => by simp at h
  | a :: r, o :: s, 0, _, _, h => by
    have h : okV a o = false := h
    rw [okAll, h, Bool.false_and]
  | a :: r, o :: s, k + 1, h1, h2, h => by
    rw [okAll, okAll_false (k := k) (by simpa using h1) (by simpa using h2) h, Bool.and_false]
theorem valsOf_len {old new ws : List V} (h : ws.length ≠ old.length) : valsOf old new ws = none := by
  unfold valsOf
  rw [decide_eq_false h]
  rfl
theorem valsOf_ok {old new ws : List V} (h : okAll ws old = false) : valsOf old new ws = none := by
  unfold valsOf
  rw [h, Bool.and_false]
theorem valRun_false {ws : List V} : ∀ {is new : List V} {acc : List V}, is.length = new.length → (∃ u ∈ new, chkI (tyV u) 0 ≠ 0) → (valRun ws is new acc).1 = false
  | [], [], _, _, h => by obtain ⟨u, hu, _⟩ := h; cases hu
  | [], _ :: _, _, h, _ => by simp at h
  | _ :: _, [], _, h, _ => by simp at h
  | i :: r, u :: s, acc, hl, h => by
    unfold valRun
    by_cases hu : chkI (tyV u) 0 = 0
    · rw [hu]
      simp only [bne_self_eq_false]
      refine valRun_false (by simpa using hl) ?_
      obtain ⟨v, hv, hc⟩ := h
      rcases List.mem_cons.1 hv with rfl | hv
      · exact absurd hu hc
      · exact ⟨v, hv, hc⟩
    · have : (chkI (tyV u) 0 != 0) = true := by simpa using hu
      rw [this]
theorem valsOf_new {old new ws : List V} (h : ∃ u ∈ new, chkI (tyV u) 0 ≠ 0) : valsOf old new ws = none := by
  unfold valsOf
  have h1 := valRun_false (ws := ws) (is := slotsOf old new) (new := new) (acc := []) (slots_len old new) h
  cases decide (ws.length = old.length) && okAll ws old with
  | false => rfl
  | true =>
    simp only
    rcases hr : valRun ws (slotsOf old new) new [] with ⟨b, l⟩
    rw [hr] at h1
    simp only at h1
    subst h1
    rfl
theorem set_at {l : List V} {k : Nat} (h : k < l.length) (v : V) : (l.set k v).getD k .top = v := by rw [List.getD_eq_getElem?_getD, List.getElem?_set]; simp [h]
def C8 : List (FuncId × Model) := (9, mTrue) :: (19, mMadeO) :: CW
theorem ok8 : Ok C8 := ok_cons works_holds (ok_cons madeO_holds okW)
theorem refuses_run (a b : List V) (w n : Int) : (runF (EF 8 C8 L0) false Try.f8 [.seq 70 a, .seq 70 b, .int .u8 w, .int .u16 n] []).eval = ((Tr.ite (!(↑a.length : Int) == (0 : Int))
 (.ite (!decide ((↑a.length : Int) > (60 : Int)))
  (.ite (decide ((↑b.length : Int) > (60 : Int)))
   (.ret (Out.ret (V.bool true) []))
   (.ite (decide (a.length ≤ (65536 : Nat)))
    (.ite (decide (b.length ≤ (65536 : Nat)))
     (.ite (decide ((↑(madeRun a [] []).fst.length : Int) ≠ (0 : Int)))
      (.ite (w.tmod (6 : Int) == (0 : Int))
       (.ite (decide ((0 : Int) ≤ (1 : Int)) && decide ((1 : Int) ≤ (↑(madeRun a [] []).snd.length : Int)) && decide ((↑(madeRun a [] []).snd.length : Int) ≤ (↑(madeRun a [] []).snd.length : Int)))
        (.ite (decide ((madeRun a [] []).fst.length ≤ (65536 : Nat)) && decide ((madeRun b [] []).fst.length ≤ (65536 : Nat)))
         (.ite ((valsOf (madeRun a [] []).fst (madeRun b [] []).fst (List.take ((↑(madeRun a [] []).snd.length : Int).toNat - Int.toNat (1 : Int)) (List.drop (Int.toNat (1 : Int)) (madeRun a [] []).snd))).isSome)
          (.ite ((↑((valsOf (madeRun a [] []).fst (madeRun b [] []).fst (List.take ((↑(madeRun a [] []).snd.length : Int).toNat - Int.toNat (1 : Int)) (List.drop (Int.toNat (1 : Int)) (madeRun a [] []).snd))).getD []).length : Int) == (0 : Int))
           (.ret (Out.ret (V.bool false) []))
           (.ret (Out.ret (V.bool false) [])))
          (.ret (Out.ret (V.bool true) [])))
         .fail)
        .fail)
       (.ite (w.tmod (6 : Int) == (1 : Int))
        (.ite (decide ((madeRun a [] []).snd.length + nat_lit 1 ≤ nat_lit 4294967296))
         (.ite (decide ((madeRun a [] []).fst.length ≤ (65536 : Nat)) && decide ((madeRun b [] []).fst.length ≤ (65536 : Nat)))
          (.ite ((valsOf (madeRun a [] []).fst (madeRun b [] []).fst ((madeRun a [] []).snd ++ [V.agg [V.int IntKind.i64 (1 : Int), V.int IntKind.i64 (0 : Int)]])).isSome)
           (.ite ((↑((valsOf (madeRun a [] []).fst (madeRun b [] []).fst ((madeRun a [] []).snd ++ [V.agg [V.int IntKind.i64 (1 : Int), V.int IntKind.i64 (0 : Int)]])).getD []).length : Int) == (0 : Int))
            (.ret (Out.ret (V.bool false) []))
            (.ret (Out.ret (V.bool false) [])))
           (.ret (Out.ret (V.bool true) [])))
          .fail)
         .fail)
        (.ite (w.tmod (6 : Int) == (2 : Int))
         (.ite (Nat.beq (44 : TypeId) (44 : TypeId) && true && decide ((0 : Int) ≤ (IntKind.i64.wrap n).tmod (↑(madeRun a [] []).fst.length : Int)) && decide ((IntKind.i64.wrap n).tmod (↑(madeRun a [] []).fst.length : Int) < (↑(madeRun a [] []).snd.length : Int)))
          (.ite (Nat.beq (44 : TypeId) (44 : TypeId) && true && decide ((0 : Int) ≤ (IntKind.i64.wrap n).tmod (↑(madeRun a [] []).fst.length : Int)) && decide ((IntKind.i64.wrap n).tmod (↑(madeRun a [] []).fst.length : Int) < (↑(madeRun a [] []).snd.length : Int)))
           (.ite (Nat.beq (44 : TypeId) (44 : TypeId) && true && decide ((0 : Int) ≤ (IntKind.i64.wrap n).tmod (↑(madeRun a [] []).fst.length : Int)) && decide ((IntKind.i64.wrap n).tmod (↑(madeRun a [] []).fst.length : Int) < (↑(madeRun a [] []).snd.length : Int)))
            (.ite (decide ((madeRun a [] []).fst.length ≤ (65536 : Nat)) && decide ((madeRun b [] []).fst.length ≤ (65536 : Nat)))
             (.ite ((valsOf (madeRun a [] []).fst (madeRun b [] []).fst
                 (((madeRun a [] []).snd.set ((IntKind.i64.wrap n).tmod (↑(madeRun a [] []).fst.length : Int)).toNat
                       (V.agg
                         [V.int IntKind.i64 (IntKind.i64.wrap ((((madeRun a [] []).snd.getD ((IntKind.i64.wrap n).tmod (↑(madeRun a [] []).fst.length : Int)).toNat V.top).cell (0 : Nat)).toI.tmod (3 : Int) + (1 : Int))), V.int IntKind.i64 (((madeRun a [] []).snd.getD ((IntKind.i64.wrap n).tmod (↑(madeRun a [] []).fst.length : Int)).toNat V.top).cell (1 : Nat)).toI])).set
                   ((IntKind.i64.wrap n).tmod (↑(madeRun a [] []).fst.length : Int)).toNat
                   (V.agg
                     [V.int IntKind.i64
                         ((((madeRun a [] []).snd.set ((IntKind.i64.wrap n).tmod (↑(madeRun a [] []).fst.length : Int)).toNat
                                     (V.agg
                                       [V.int IntKind.i64 (IntKind.i64.wrap ((((madeRun a [] []).snd.getD ((IntKind.i64.wrap n).tmod (↑(madeRun a [] []).fst.length : Int)).toNat V.top).cell (0 : Nat)).toI.tmod (3 : Int) + (1 : Int))),
                                         V.int IntKind.i64 (((madeRun a [] []).snd.getD ((IntKind.i64.wrap n).tmod (↑(madeRun a [] []).fst.length : Int)).toNat V.top).cell (1 : Nat)).toI])).getD
                                 ((IntKind.i64.wrap n).tmod (↑(madeRun a [] []).fst.length : Int)).toNat V.top).cell
                             (0 : Nat)).toI,
                       V.int IntKind.i64 (0 : Int)]))).isSome)
              (.ite ((↑((valsOf (madeRun a [] []).fst (madeRun b [] []).fst
                            (((madeRun a [] []).snd.set ((IntKind.i64.wrap n).tmod (↑(madeRun a [] []).fst.length : Int)).toNat
                                  (V.agg
                                    [V.int IntKind.i64 (IntKind.i64.wrap ((((madeRun a [] []).snd.getD ((IntKind.i64.wrap n).tmod (↑(madeRun a [] []).fst.length : Int)).toNat V.top).cell (0 : Nat)).toI.tmod (3 : Int) + (1 : Int))),
                                      V.int IntKind.i64 (((madeRun a [] []).snd.getD ((IntKind.i64.wrap n).tmod (↑(madeRun a [] []).fst.length : Int)).toNat V.top).cell (1 : Nat)).toI])).set
                              ((IntKind.i64.wrap n).tmod (↑(madeRun a [] []).fst.length : Int)).toNat
                              (V.agg
                                [V.int IntKind.i64
                                    ((((madeRun a [] []).snd.set ((IntKind.i64.wrap n).tmod (↑(madeRun a [] []).fst.length : Int)).toNat
                                                (V.agg
                                                  [V.int IntKind.i64 (IntKind.i64.wrap ((((madeRun a [] []).snd.getD ((IntKind.i64.wrap n).tmod (↑(madeRun a [] []).fst.length : Int)).toNat V.top).cell (0 : Nat)).toI.tmod (3 : Int) + (1 : Int))),
                                                    V.int IntKind.i64 (((madeRun a [] []).snd.getD ((IntKind.i64.wrap n).tmod (↑(madeRun a [] []).fst.length : Int)).toNat V.top).cell (1 : Nat)).toI])).getD
                                            ((IntKind.i64.wrap n).tmod (↑(madeRun a [] []).fst.length : Int)).toNat V.top).cell
                                        (0 : Nat)).toI,
                                  V.int IntKind.i64 (0 : Int)]))).getD
                        []).length :
                  Int) ==
                (0 : Int))
               (.ret (Out.ret (V.bool false) []))
               (.ret (Out.ret (V.bool false) [])))
              (.ret (Out.ret (V.bool true) [])))
             .fail)
            .fail)
           .fail)
          .fail)
         (.ite (w.tmod (6 : Int) == (3 : Int))
          (.ite (Nat.beq (44 : TypeId) (44 : TypeId) && true && decide ((0 : Int) ≤ (IntKind.i64.wrap n).tmod (↑(madeRun a [] []).fst.length : Int)) && decide ((IntKind.i64.wrap n).tmod (↑(madeRun a [] []).fst.length : Int) < (↑(madeRun a [] []).snd.length : Int)))
           (.ite (decide ((madeRun a [] []).fst.length ≤ (65536 : Nat)) && decide ((madeRun b [] []).fst.length ≤ (65536 : Nat)))
            (.ite ((valsOf (madeRun a [] []).fst (madeRun b [] []).fst ((madeRun a [] []).snd.set ((IntKind.i64.wrap n).tmod (↑(madeRun a [] []).fst.length : Int)).toNat (V.agg [V.int IntKind.i64 (2 : Int), V.int IntKind.i64 (IntKind.i64.wrap ((2 : Int) + IntKind.i64.wrap n))]))).isSome)
             (.ite ((↑((valsOf (madeRun a [] []).fst (madeRun b [] []).fst ((madeRun a [] []).snd.set ((IntKind.i64.wrap n).tmod (↑(madeRun a [] []).fst.length : Int)).toNat (V.agg [V.int IntKind.i64 (2 : Int), V.int IntKind.i64 (IntKind.i64.wrap ((2 : Int) + IntKind.i64.wrap n))]))).getD []).length : Int) == (0 : Int))
              (.ret (Out.ret (V.bool false) []))
              (.ret (Out.ret (V.bool false) [])))
             (.ret (Out.ret (V.bool true) [])))
            .fail)
           .fail)
          (.ite (w.tmod (6 : Int) == (4 : Int))
           (.ite (Nat.beq (44 : TypeId) (44 : TypeId) && true && decide ((0 : Int) ≤ (IntKind.i64.wrap n).tmod (↑(madeRun a [] []).fst.length : Int)) && decide ((IntKind.i64.wrap n).tmod (↑(madeRun a [] []).fst.length : Int) < (↑(madeRun a [] []).snd.length : Int)))
            (.ite (decide ((madeRun a [] []).fst.length ≤ (65536 : Nat)) && decide ((madeRun b [] []).fst.length ≤ (65536 : Nat)))
             (.ite ((valsOf (madeRun a [] []).fst (madeRun b [] []).fst ((madeRun a [] []).snd.set ((IntKind.i64.wrap n).tmod (↑(madeRun a [] []).fst.length : Int)).toNat (V.agg [V.int IntKind.i64 (3 : Int), V.int IntKind.i64 (IntKind.i64.wrap ((-1 : Int) - IntKind.i64.wrap n))]))).isSome)
              (.ite ((↑((valsOf (madeRun a [] []).fst (madeRun b [] []).fst ((madeRun a [] []).snd.set ((IntKind.i64.wrap n).tmod (↑(madeRun a [] []).fst.length : Int)).toNat (V.agg [V.int IntKind.i64 (3 : Int), V.int IntKind.i64 (IntKind.i64.wrap ((-1 : Int) - IntKind.i64.wrap n))]))).getD []).length : Int) == (0 : Int))
               (.ret (Out.ret (V.bool false) []))
               (.ret (Out.ret (V.bool false) [])))
              (.ret (Out.ret (V.bool true) [])))
             .fail)
            .fail)
           (.ite (decide ((madeRun b [] []).fst.length + nat_lit 1 ≤ nat_lit 4294967296))
            (.ite (decide ((madeRun a [] []).fst.length ≤ (65536 : Nat)) && decide (((madeRun b [] []).fst ++ [V.agg [V.str [(122 : UInt8), (122 : UInt8)], V.int IntKind.i64 (IntKind.i64.wrap ((4 : Int) + IntKind.i64.wrap n)), V.int IntKind.i64 (0 : Int), V.int IntKind.i64 (0 : Int), V.int IntKind.i64 (0 : Int)]]).length ≤ (65536 : Nat)))
             (.ite ((valsOf (madeRun a [] []).fst ((madeRun b [] []).fst ++ [V.agg [V.str [(122 : UInt8), (122 : UInt8)], V.int IntKind.i64 (IntKind.i64.wrap ((4 : Int) + IntKind.i64.wrap n)), V.int IntKind.i64 (0 : Int), V.int IntKind.i64 (0 : Int), V.int IntKind.i64 (0 : Int)]]) (madeRun a [] []).snd).isSome)
              (.ite ((↑((valsOf (madeRun a [] []).fst ((madeRun b [] []).fst ++ [V.agg [V.str [(122 : UInt8), (122 : UInt8)], V.int IntKind.i64 (IntKind.i64.wrap ((4 : Int) + IntKind.i64.wrap n)), V.int IntKind.i64 (0 : Int), V.int IntKind.i64 (0 : Int), V.int IntKind.i64 (0 : Int)]]) (madeRun a [] []).snd).getD []).length : Int) == (0 : Int))
               (.ret (Out.ret (V.bool false) []))
               (.ret (Out.ret (V.bool false) [])))
              (.ret (Out.ret (V.bool true) [])))
             .fail)
            .fail))))))
      .fail)
     .fail)
    .fail))
  (.ret (Out.ret (V.bool true) [])))
 (.ret (Out.ret (V.bool true) [])))).eval := by kernel_rfl
noncomputable def mRefuses : Model
  | [.seq 70 a, .seq 70 b, .int .u8 w, .int .u16 n], [] => .test (pd (Ons a ∧ Ons b ∧ (0 ≤ w ∧ w ≤ 255) ∧ (0 ≤ n ∧ n ≤ 65535))) (.ret (.ret (.bool true) []))
  | _, _ => .fail
theorem refuses_holds : Holds T tG Try.prog 8 mRefuses := by
  refine holds_of 8 C8 ok8 L0 (fn := Try.f8) (c := (Try.f8.body).getD .skip) (by kernel_rfl) (by kernel_rfl) (by kernel_rfl) (by kernel_rfl) mRefuses ?_
  intro args objs out h
  unfold mRefuses at h
  split at h
  · rename_i a b w n
    obtain ⟨h1, h2⟩ := eval_test h
    rw [pd_iff] at h1
    obtain ⟨ha, hb, ⟨hw0, hw1⟩, ⟨hn0, hn1⟩⟩ := h1
    refine ⟨loops_none (by kernel_rfl), ?_⟩
    rw [refuses_run, ← h2]
    by_cases ea : a = []
    · subst ea
      simp [eval_ite, eval_ret]
    · have ea2 : ((a.length : Int) == 0) = false := by simp [ea]
      by_cases la : (a.length : Int) > 60
      · simp [eval_ite, la, ea2, eval_ret]
      · by_cases lb : (b.length : Int) > 60
        · simp [eval_ite, la, lb, ea2, eval_ret]
        · have kl := (kept_len a []).2
          have ml := (kept_len b []).2
          simp only [List.length_nil, Nat.zero_add] at kl ml
          have kp := kept_pos a ea
          have fk := kept_on ha
          obtain ⟨K, hK⟩ : ∃ K, K = keptOf a [] := ⟨_, rfl⟩
          obtain ⟨M, hM⟩ : ∃ M, M = keptOf b [] := ⟨_, rfl⟩
          rw [made_kept a, made_kept b, ← hK, ← hM]
          rw [← hK] at kl kp fk
          rw [← hM] at ml
          have wn : IntKind.i64.wrap n = n := wrap_i64 (by omega) (by omega)
          have tn : n.tmod (K.length : Int) = n % (K.length : Int) := Int.tmod_eq_emod_of_nonneg hn0
          simp only [wn, List.length_map, tn]
          obtain ⟨k, hk⟩ : ∃ k : Nat, n % (K.length : Int) = k := ⟨(n % (K.length : Int)).toNat, by rw [Int.toNat_of_nonneg (Int.emod_nonneg _ (by omega))]⟩
          have klt : k < K.length := by have := Int.emod_lt_of_pos n (show (0 : Int) < K.length by omega); omega
          rw [hk]
          have w4 : IntKind.i64.wrap (4 + n) = 4 + n := wrap_i64 (by omega) (by omega)
          have w2 : IntKind.i64.wrap (2 + n) = 2 + n := wrap_i64 (by omega) (by omega)
          have w1 : IntKind.i64.wrap (-1 - n) = -1 - n := wrap_i64 (by omega) (by omega)
          have tw : w.tmod 6 = w % 6 := Int.tmod_eq_emod_of_nonneg hw0
          have hx : K.getD k .top ∈ K := by rw [getD_lt klt]; exact List.getElem_mem klt
          have gx : (K.map onVal).getD k .top = onVal (K.getD k .top) := getD_map klt
          have gy : (K.map onVar).getD k .top = onVar (K.getD k .top) := getD_map klt
          have hlv : (K.map onVal).length = K.length := by simp
          have hlo : (K.map onVar).length = K.length := by simp
          have n0 : valsOf (K.map onVar) (M.map onVar) (List.take (K.length - Int.toNat 1) (List.drop (Int.toNat 1) (K.map onVal))) = none := valsOf_len (by
            simp; omega)
          have n1 : valsOf (K.map onVar) (M.map onVar) (K.map onVal ++ [V.agg [.int .i64 1, .int .i64 0]]) = none := valsOf_len (by simp)
          have n2 : ∀ y z : Int, valsOf (K.map onVar) (M.map onVar) (((K.map onVal).set k (V.agg [.int .i64 (IntKind.i64.wrap ((((K.map onVal).getD k .top).cell 0).toI.tmod 3 + 1)), .int .i64 y])).set k (V.agg [.int .i64 ((((K.map onVal).set k (V.agg [.int .i64 (IntKind.i64.wrap ((((K.map onVal).getD k .top).cell 0).toI.tmod 3 + 1)), .int .i64 y])).getD k .top).cell 0).toI, .int .i64 z])) = none := fun y z => by
            refine valsOf_ok (okAll_false (k := k) (by simp; exact klt) (by simp; exact klt) ?_)
            rw [set_at (by simp; exact klt), set_at (by simp; exact klt), gx, gy]
            have h5 := onT_range (fk _ hx)
            show (chkI (IntKind.i64.wrap ((onT (K.getD k .top)).tmod 3 + 1)) z == 0 && IntKind.i64.wrap ((onT (K.getD k .top)).tmod 3 + 1) == onT (K.getD k .top)) = false
            rw [Bool.and_eq_false_iff]
            right
            rcases h5 with h | h | h <;> rw [h] <;> decide
          have n3 : valsOf (K.map onVar) (M.map onVar) ((K.map onVal).set k (V.agg [.int .i64 2, .int .i64 (2 + n)])) = none := by
            refine valsOf_ok (okAll_false (k := k) (by simp; exact klt) (by simp; exact klt) ?_)
            rw [set_at (by simp; exact klt)]
            show (chkI 2 (2 + n) == 0 && _) = false
            have : chkI 2 (2 + n) = 2 := by simp [chkI]; omega
            rw [this]
            rfl
          have n4 : valsOf (K.map onVar) (M.map onVar) ((K.map onVal).set k (V.agg [.int .i64 3, .int .i64 (-1 - n)])) = none := by
            refine valsOf_ok (okAll_false (k := k) (by simp; exact klt) (by simp; exact klt) ?_)
            rw [set_at (by simp; exact klt)]
            show (chkI 3 (-1 - n) == 0 && _) = false
            have : chkI 3 (-1 - n) = 2 := by simp [chkI]; omega
            rw [this]
            rfl
          have n5 : ∀ s : List UInt8, valsOf (K.map onVar) (M.map onVar ++ [V.agg [.str s, .int .i64 (4 + n), .int .i64 0, .int .i64 0, .int .i64 0]]) (K.map onVal) = none := fun s => valsOf_new ⟨_, List.mem_append.2 (.inr (List.mem_singleton.2 rfl)), by
            show chkI (4 + n) 0 ≠ 0
            have : chkI (4 + n) 0 = 2 := by
              unfold chkI
              rw [if_neg (by omega), if_neg (by omega), if_neg (by omega)]
            rw [this]
            decide⟩
          have hc : w % 6 = 0 ∨ w % 6 = 1 ∨ w % 6 = 2 ∨ w % 6 = 3 ∨ w % 6 = 4 ∨ w % 6 = 5 := by omega
          have l1 : (M.map onVar ++ [V.agg [.str [122, 122], .int .i64 (4 + n), .int .i64 0, .int .i64 0, .int .i64 0]]).length ≤ 65536 := by simp; omega
          have u1 : ((K.length : Int) ≠ 0) := by omega
          rcases hc with h | h | h | h | h | h <;>
            simp only [eval_ite, tw, h, la, lb, ea2, u1, w1, w2, w4, n0, n1, n2, n3, n4, n5, l1, Int.toNat_natCast, List.length_map, List.length_append, List.length_cons, List.length_nil, show a.length ≤ 65536 by omega, show b.length ≤ 65536 by omega, show K.length ≤ 65536 by omega, show M.length ≤ 65536 by omega, show M.length + (0 + 1) ≤ 65536 by omega, show M.length + 1 ≤ 4294967296 by omega, show K.length + 1 ≤ 4294967296 by omega, show (k : Int) < (K.length : Int) by omega, show (0 : Int) ≤ (k : Int) by omega, show (1 : Int) ≤ (K.length : Int) by omega, show (0 : Int) ≤ 1 by decide, Int.le_refl, decide_true, decide_false, Bool.not_false, Bool.not_true, Bool.and_self, if_true, Bool.false_eq_true, if_false, Option.isSome_none, Option.getD_none, bne_self_eq_false, beq_self_eq_true, Nat.beq_refl, ne_eq, not_false_eq_true, show ((1 : Int) == 0) = false from rfl, show ((2 : Int) == 0) = false from rfl, show ((2 : Int) == 1) = false from rfl, show ((3 : Int) == 0) = false from rfl, show ((3 : Int) == 1) = false from rfl, show ((3 : Int) == 2) = false from rfl, show ((4 : Int) == 0) = false from rfl, show ((4 : Int) == 1) = false from rfl, show ((4 : Int) == 2) = false from rfl, show ((4 : Int) == 3) = false from rfl, show ((5 : Int) == 0) = false from rfl, show ((5 : Int) == 1) = false from rfl, show ((5 : Int) == 2) = false from rfl, show ((5 : Int) == 3) = false from rfl, show ((5 : Int) == 4) = false from rfl]
  · simp [Tr.eval] at h
end Go.Proofs.Ytecplbjggbelbaa
