/- Carry: works; CarryKeeps. -/
import Derived.Test.YtecplbjggbelbaaCF
namespace Go.Proofs.Ytecplbjggbelbaa
open Go Go.AH
set_option maxRecDepth 100000
def CW : List (FuncId × Model) := [(25, mVar), (13, mVals), (10, mChg), (16, mSlots), (15, mEq 3 sameI), (18, mEq 44 sameA)]
theorem okW : Ok CW := ok_cons var_holds (ok_cons vals_holds (ok_cons chg_holds (ok_cons slots_holds (ok_cons ints_holds (ok_cons same_holds ok_nil)))))
def mTrue : Model
  | [], [] => .ret (.ret (.bool true) [])
  | _, _ => .fail
theorem works_holds : Holds T tG Try.prog 9 mTrue := by
  refine holds_of 9 CW okW L0 (fn := Try.f9) (c := (Try.f9.body).getD .skip) (by kernel_rfl) (by kernel_rfl) (by kernel_rfl) (by kernel_rfl) mTrue ?_
  intro args objs out h
  unfold mTrue at h
  split at h
  · refine ⟨loops_none (by kernel_rfl), ?_⟩
    rw [← h]
    kernel_rfl
  · simp [Tr.eval] at h
def CL : List (FuncId × Model) := (9, mTrue) :: (19, mMade) :: (20, mOf) :: (21, mDef) :: (22, mChk) :: (23, mFind) :: (24, mTurn) :: CW
theorem okL : Ok CL := ok_cons works_holds (ok_cons made_holds (ok_cons of_holds (ok_cons def_holds (ok_cons chk_holds (ok_cons find_holds (ok_cons turn_holds okW))))))
/-- A test on any statement. -/
noncomputable def pd (p : Prop) : Bool := @decide p (Classical.propDecidable p)
theorem pd_iff {p : Prop} : pd p = true ↔ p := @decide_eq_true_iff p (Classical.propDecidable p)

structure KeepF (old vals fresh got slots : List V) (K M : List V) : Prop where
  fk : ∀ x ∈ K, fitOn x
  fm : ∀ y ∈ M, fitOn y
  old_ : old = K.map onVar
  vals_ : vals = K.map onVal
  fresh_ : fresh = M.map onVar
  got_ : got = M.map (carried K)
  slots_ : slots = slotsOf old fresh
  lk : K.length ≤ 65536
  lm : M.length ≤ 65536
noncomputable def LKeep : List V → List Ob → Tr (Ex × List V × List Ob)
  | [.seq 48 old, .seq 44 vals, .seq 48 fresh, .seq 44 got, .seq 3 slots, .int .i64 i], [] => .test (pd (∃ K M, KeepF old vals fresh got slots K M) && decide (0 ≤ i)) (.ret (.exit 0, [.top, .seq 48 old, .seq 48 fresh], []))
  | _, _ => .fail
def LFst : List V → List Ob → Tr (Ex × List V × List Ob)
  | [.seq 48 old, .seq 48 fresh, .str first, .int .i64 i], [] => .test (decide (-1 ≤ i) && decide (i < old.length) && decide (fresh.length ≤ 65536) && decide (old.length ≤ 65536)) (.ret (.exit 2, [.seq 48 old, .seq 48 fresh, .str ((chgFirst fresh (old.take (i + 1).toNat)).getD first)], []))
  | _, _ => .fail
noncomputable def L4 : LM := fun key => (match key with | 10 => LKeep | 19 => LFst | _ => fun _ _ => .fail)
noncomputable def E4 : Env := EF 4 CL L4
theorem keeps_step (old vals fresh got slots : List V) (i : Int) : (loopStep E4 0 10 (loopB Try.f4 10) [.seq 48 old, .seq 44 vals, .seq 48 fresh, .seq 44 got, .seq 3 slots, .int .i64 i] []).eval = ((Tr.ite (decide (i < (↑fresh.length : Int)))
 (.ite (decide ((0 : Int) ≤ i) && decide (i < (↑fresh.length : Int)))
  (.ite (decide ((0 : Int) ≤ i) && decide (i < (↑fresh.length : Int)))
   (.ite (decide (old.length ≤ (65536 : Nat)) && decide (old.length ≤ vals.length))
    (.ite (!(ofA old vals ((fresh.getD i.toNat V.top).cell (0 : Nat)).toS ((fresh.getD i.toNat V.top).cell (1 : Nat)).toI).isSome)
     (.ite (decide ((0 : Int) ≤ i) && decide (i < (↑fresh.length : Int)))
      (.ite (decide ((0 : Int) ≤ i) && decide (i < (↑got.length : Int)))
       (.ite (!!(((got.getD i.toNat V.top).cell (0 : Nat)).toI == defT ((fresh.getD i.toNat V.top).cell (1 : Nat)).toI && (((got.getD i.toNat V.top).cell (1 : Nat)).toI == (0 : Int) && true)))
        (.ite (decide ((0 : Int) ≤ i) && decide (i < (↑got.length : Int)))
         (.ite (decide ((0 : Int) ≤ i) && decide (i < (↑fresh.length : Int)))
          (.ite (!((got.getD i.toNat V.top).cell (0 : Nat)).toI != ((fresh.getD i.toNat V.top).cell (1 : Nat)).toI)
           (.ite (decide ((0 : Int) ≤ i) && decide (i < (↑got.length : Int)))
            (.ite (!chkI ((got.getD i.toNat V.top).cell (0 : Nat)).toI ((got.getD i.toNat V.top).cell (1 : Nat)).toI != (0 : Int))
             (.ite (decide ((0 : Int) ≤ i) && decide (i < (↑slots.length : Int)))
              (.ite (!!(ofA old vals ((fresh.getD i.toNat V.top).cell (0 : Nat)).toS ((fresh.getD i.toNat V.top).cell (1 : Nat)).toI).isSome == decide ((slots.getD i.toNat V.top).toI ≥ (0 : Int)))
               (.ite ((ofA old vals ((fresh.getD i.toNat V.top).cell (0 : Nat)).toS ((fresh.getD i.toNat V.top).cell (1 : Nat)).toI).isSome)
                (.ite (decide ((0 : Int) ≤ i) && decide (i < (↑slots.length : Int)))
                 (.ite (decide ((0 : Int) ≤ (slots.getD i.toNat V.top).toI) && decide ((slots.getD i.toNat V.top).toI < (↑old.length : Int)))
                  (.ite (decide ((0 : Int) ≤ i) && decide (i < (↑fresh.length : Int)))
                   (.ite (!!((old.getD (slots.getD i.toNat V.top).toI.toNat V.top).cell (0 : Nat)).toS == ((fresh.getD i.toNat V.top).cell (0 : Nat)).toS)
                    (.ite (decide ((0 : Int) ≤ i) && decide (i < (↑slots.length : Int)))
                     (.ite (decide ((0 : Int) ≤ (slots.getD i.toNat V.top).toI) && decide ((slots.getD i.toNat V.top).toI < (↑old.length : Int)))
                      (.ite (decide ((0 : Int) ≤ i) && decide (i < (↑fresh.length : Int)))
                       (.ite (((old.getD (slots.getD i.toNat V.top).toI.toNat V.top).cell (1 : Nat)).toI != ((fresh.getD i.toNat V.top).cell (1 : Nat)).toI)
                        (.ret ((Ex.ret, [V.bool false, V.seq (nat_lit 48) old, V.seq (nat_lit 48) fresh], [])))
                        (.ret ((Ex.normal, [V.seq (nat_lit 48) old, V.seq (nat_lit 44) vals, V.seq (nat_lit 48) fresh, V.seq (nat_lit 44) got, V.seq (nat_lit 3) slots, V.int IntKind.i64 (IntKind.i64.wrap (i + (1 : Int)))], []))))
                       .fail)
                      .fail)
                     .fail)
                    (.ret ((Ex.ret, [V.bool false, V.seq (nat_lit 48) old, V.seq (nat_lit 48) fresh], []))))
                   .fail)
                  .fail)
                 .fail)
                (.ret ((Ex.normal, [V.seq (nat_lit 48) old, V.seq (nat_lit 44) vals, V.seq (nat_lit 48) fresh, V.seq (nat_lit 44) got, V.seq (nat_lit 3) slots, V.int IntKind.i64 (IntKind.i64.wrap (i + (1 : Int)))], []))))
               (.ret ((Ex.ret, [V.bool false, V.seq (nat_lit 48) old, V.seq (nat_lit 48) fresh], []))))
              .fail)
             (.ret ((Ex.ret, [V.bool false, V.seq (nat_lit 48) old, V.seq (nat_lit 48) fresh], []))))
            .fail)
           (.ret ((Ex.ret, [V.bool false, V.seq (nat_lit 48) old, V.seq (nat_lit 48) fresh], []))))
          .fail)
         .fail)
        (.ret ((Ex.ret, [V.bool false, V.seq (nat_lit 48) old, V.seq (nat_lit 48) fresh], []))))
       .fail)
      .fail)
     (.ite (decide ((0 : Int) ≤ i) && decide (i < (↑got.length : Int)))
      (.ite (!!(((got.getD i.toNat V.top).cell (0 : Nat)).toI == tA ((ofA old vals ((fresh.getD i.toNat V.top).cell (0 : Nat)).toS ((fresh.getD i.toNat V.top).cell (1 : Nat)).toI).getD (V.agg [V.int IntKind.i64 (0 : Int), V.int IntKind.i64 (0 : Int)])) &&
            (((got.getD i.toNat V.top).cell (1 : Nat)).toI == nA ((ofA old vals ((fresh.getD i.toNat V.top).cell (0 : Nat)).toS ((fresh.getD i.toNat V.top).cell (1 : Nat)).toI).getD (V.agg [V.int IntKind.i64 (0 : Int), V.int IntKind.i64 (0 : Int)])) && true)))
       (.ite (decide ((0 : Int) ≤ i) && decide (i < (↑got.length : Int)))
        (.ite (decide ((0 : Int) ≤ i) && decide (i < (↑fresh.length : Int)))
         (.ite (!((got.getD i.toNat V.top).cell (0 : Nat)).toI != ((fresh.getD i.toNat V.top).cell (1 : Nat)).toI)
          (.ite (decide ((0 : Int) ≤ i) && decide (i < (↑got.length : Int)))
           (.ite (!chkI ((got.getD i.toNat V.top).cell (0 : Nat)).toI ((got.getD i.toNat V.top).cell (1 : Nat)).toI != (0 : Int))
            (.ite (decide ((0 : Int) ≤ i) && decide (i < (↑slots.length : Int)))
             (.ite (!!(ofA old vals ((fresh.getD i.toNat V.top).cell (0 : Nat)).toS ((fresh.getD i.toNat V.top).cell (1 : Nat)).toI).isSome == decide ((slots.getD i.toNat V.top).toI ≥ (0 : Int)))
              (.ite ((ofA old vals ((fresh.getD i.toNat V.top).cell (0 : Nat)).toS ((fresh.getD i.toNat V.top).cell (1 : Nat)).toI).isSome)
               (.ite (decide ((0 : Int) ≤ i) && decide (i < (↑slots.length : Int)))
                (.ite (decide ((0 : Int) ≤ (slots.getD i.toNat V.top).toI) && decide ((slots.getD i.toNat V.top).toI < (↑old.length : Int)))
                 (.ite (decide ((0 : Int) ≤ i) && decide (i < (↑fresh.length : Int)))
                  (.ite (!!((old.getD (slots.getD i.toNat V.top).toI.toNat V.top).cell (0 : Nat)).toS == ((fresh.getD i.toNat V.top).cell (0 : Nat)).toS)
                   (.ite (decide ((0 : Int) ≤ i) && decide (i < (↑slots.length : Int)))
                    (.ite (decide ((0 : Int) ≤ (slots.getD i.toNat V.top).toI) && decide ((slots.getD i.toNat V.top).toI < (↑old.length : Int)))
                     (.ite (decide ((0 : Int) ≤ i) && decide (i < (↑fresh.length : Int)))
                      (.ite (((old.getD (slots.getD i.toNat V.top).toI.toNat V.top).cell (1 : Nat)).toI != ((fresh.getD i.toNat V.top).cell (1 : Nat)).toI)
                       (.ret ((Ex.ret, [V.bool false, V.seq (nat_lit 48) old, V.seq (nat_lit 48) fresh], [])))
                       (.ret ((Ex.normal, [V.seq (nat_lit 48) old, V.seq (nat_lit 44) vals, V.seq (nat_lit 48) fresh, V.seq (nat_lit 44) got, V.seq (nat_lit 3) slots, V.int IntKind.i64 (IntKind.i64.wrap (i + (1 : Int)))], []))))
                      .fail)
                     .fail)
                    .fail)
                   (.ret ((Ex.ret, [V.bool false, V.seq (nat_lit 48) old, V.seq (nat_lit 48) fresh], []))))
                  .fail)
                 .fail)
                .fail)
               (.ret ((Ex.normal, [V.seq (nat_lit 48) old, V.seq (nat_lit 44) vals, V.seq (nat_lit 48) fresh, V.seq (nat_lit 44) got, V.seq (nat_lit 3) slots, V.int IntKind.i64 (IntKind.i64.wrap (i + (1 : Int)))], []))))
              (.ret ((Ex.ret, [V.bool false, V.seq (nat_lit 48) old, V.seq (nat_lit 48) fresh], []))))
             .fail)
            (.ret ((Ex.ret, [V.bool false, V.seq (nat_lit 48) old, V.seq (nat_lit 48) fresh], []))))
           .fail)
          (.ret ((Ex.ret, [V.bool false, V.seq (nat_lit 48) old, V.seq (nat_lit 48) fresh], []))))
         .fail)
        .fail)
       (.ret ((Ex.ret, [V.bool false, V.seq (nat_lit 48) old, V.seq (nat_lit 48) fresh], []))))
      .fail))
    .fail)
   .fail)
  .fail)
 (.ret ((Ex.exit (nat_lit 0), [V.top, V.seq (nat_lit 48) old, V.seq (nat_lit 48) fresh], []))))).eval := by kernel_rfl
theorem key_flip (K : List V) (y : V) : ofA (K.map onVar) (K.map onVal) (onNm y) (onT y) = (findIx (sameOn y) K 0).map fun k => (K.map onVal).getD k .top := by
  unfold ofA
  rw [findIx_map]
  congr 1
  refine findIx_congr fun v _ => ?_
  show (onNm v == onNm y && onT v == onT y) = (onNm y == onNm v && onT y == onT v)
  rw [Bool.beq_comm, Bool.beq_comm (a := onT v)]
theorem keeps_law : LoopLaw E4 0 (loopB Try.f4 10) := by
  refine ⟨fun vs _ => (match vs with | [_, _, .seq _ vs, _, _, .int _ k] => vs.length - k.toNat | _ => 0), fun vs os r h => ?_⟩
  rw [show loopKey (loopB Try.f4 10) = 10 from by kernel_rfl] at h ⊢
  replace h : (LKeep vs os).eval = some r := h
  unfold LKeep at h
  split at h
  · rename_i old vals fresh got slots i
    obtain ⟨h1, h2⟩ := eval_test h
    rw [Bool.and_eq_true, pd_iff, decide_eq_true_eq] at h1
    obtain ⟨⟨K, M, fk, fm, rfl, rfl, rfl, rfl, rfl, lk, lm⟩, h3⟩ := h1
    rw [keeps_step]
    by_cases hk : i < (((M.map onVar).length : Nat) : Int)
    · have hkn : i.toNat < M.length := by simp at hk; omega
      have ei : ((i.toNat : Nat) : Int) = i := Int.toNat_of_nonneg h3
      have ey : (M.map onVar).getD i.toNat .top = onVar (M.getD i.toNat .top) := getD_map hkn
      have eg : (M.map (carried K)).getD i.toNat .top = carried K (M.getD i.toNat .top) := getD_map hkn
      have es : (slotsOf (K.map onVar) (M.map onVar)).getD i.toNat .top = .int .i64 (ixI (findIx (sameOn (M.getD i.toNat .top)) K 0)) := by
        unfold slotsOf
        rw [List.map_map, getD_map hkn]
        show V.int .i64 (slotI (K.map onVar) (onVar (M.getD i.toNat .top))) = _
        rw [slot_on]
      have hm : M.getD i.toNat .top ∈ M := by rw [getD_lt hkn]; exact List.getElem_mem hkn
      have hf := fm _ hm
      obtain ⟨y, hy⟩ : ∃ y, y = M.getD i.toNat .top := ⟨_, rfl⟩
      rw [← hy] at ey eg es hm hf
      have hi1 : i < (M.length : Int) := by omega
      have c0 : ((onVar y).cell 0).toS = onNm y := rfl
      have c1 : ((onVar y).cell 1).toI = onT y := rfl
      have ew := wrap_i64 (show -9223372036854775808 ≤ i + 1 by omega) (by omega)
      have fin : ∃ z, some (Ex.normal, [V.seq 48 (K.map onVar), V.seq 44 (K.map onVal), V.seq 48 (M.map onVar), V.seq 44 (M.map (carried K)), V.seq 3 (slotsOf (K.map onVar) (M.map onVar)), V.int .i64 (i + 1)], ([] : List Ob)) = some z ∧ LoopNext E4 10 (fun vs _ => (match vs with | [_, _, .seq _ vs, _, _, .int _ k] => vs.length - k.toNat | _ => 0)) [V.seq 48 (K.map onVar), V.seq 44 (K.map onVal), V.seq 48 (M.map onVar), V.seq 44 (M.map (carried K)), V.seq 3 (slotsOf (K.map onVar) (M.map onVar)), V.int .i64 i] [] r z := by
        refine ⟨_, rfl, ?_, ?_⟩
        · show (M.map onVar).length - (i + 1).toNat < (M.map onVar).length - i.toNat
          simp; omega
        · show (LKeep [V.seq 48 (K.map onVar), V.seq 44 (K.map onVal), V.seq 48 (M.map onVar), V.seq 44 (M.map (carried K)), V.seq 3 (slotsOf (K.map onVar) (M.map onVar)), V.int .i64 (i + 1)] []).eval = some r
          unfold LKeep
          simp only
          rw [pd_iff.2 ⟨K, M, fk, fm, rfl, rfl, rfl, rfl, rfl, lk, lm⟩, decide_eq_true (show (0 : Int) ≤ i + 1 by omega)]
          exact h2
      simp only [eval_ite, ey, eg, es, c0, c1, key_flip, ew, List.length_map, slots_len, hi1, h3, lk, decide_true, Bool.and_self, if_true, Nat.le_refl]
      unfold carried
      cases hq : findIx (sameOn y) K 0 with
      | none =>
        have hd : defT (onT y) = onT y := defT_on hf
        have hc := chk_on0 hf
        have t1 : ((V.agg [V.int .i64 (onT y), V.int .i64 0]).cell 0).toI = onT y := rfl
        have t2 : ((V.agg [V.int .i64 (onT y), V.int .i64 0]).cell 1).toI = 0 := rfl
        have t3 : (V.int .i64 (ixI none)).toI = -1 := rfl
        simp only [Option.map_none, Option.isSome_none, Bool.not_false, if_true, t1, t2, t3, hd, hc, beq_self_eq_true, Bool.and_self, Bool.not_true, bne_self_eq_false, Bool.false_eq_true, if_false, show decide ((-1 : Int) ≥ 0) = false from rfl]
        exact fin
      | some k =>
        have hk2 := (findIx_lt hq).2
        obtain ⟨_, x, hx, hs⟩ := findIx_some hq
        simp only [Nat.zero_add, Nat.sub_zero] at hk2 hx
        have ex : K.getD k .top = x := by rw [List.getD_eq_getElem?_getD, hx]; rfl
        have hxK : x ∈ K := List.mem_of_getElem? hx
        simp only [sameOn, Bool.and_eq_true, beq_iff_eq] at hs
        have e1 : (K.map onVal).getD k .top = onVal x := by rw [getD_map hk2, ex]
        have e2 : (K.map onVar).getD k .top = onVar x := by rw [getD_map hk2, ex]
        have t1 : ((onVal x).cell 0).toI = onT x := rfl
        have t2 : ((onVal x).cell 1).toI = onN x := rfl
        have t3 : (V.int .i64 (ixI (some k))).toI = k := rfl
        have t4 : tA (onVal x) = onT x := rfl
        have t5 : nA (onVal x) = onN x := rfl
        have t6 : ((onVar x).cell 0).toS = onNm x := rfl
        have t7 : ((onVar x).cell 1).toI = onT x := rfl
        have hc := chk_on (fk x hxK)
        have g1 : (k : Int) ≥ 0 := by omega
        have g2 : (k : Int) < K.length := by omega
        simp only [Option.map_some, Option.isSome_some, Option.getD_some, Bool.not_true, Bool.false_eq_true, if_false, ex, e1, e2, t1, t2, t3, t4, t5, t6, t7, hs.1, hs.2, hc, Int.toNat_natCast, beq_self_eq_true, Bool.and_self, bne_self_eq_false, Bool.not_false, if_true, g1, g2, show (0 : Int) ≤ (k : Int) by omega, decide_true]
        exact fin
    · simp only [eval_ite, hk, decide_false, Bool.false_eq_true, if_false]
      exact ⟨_, rfl, by simpa [eval_ret, LoopNext] using h2⟩
  · simp [Tr.eval] at h
theorem fst_step (old fresh : List V) (first : List UInt8) (i : Int) : (loopStep E4 0 19 (loopB Try.f4 19) [.seq 48 old, .seq 48 fresh, .str first, .int .i64 i] []).eval = ((Tr.ite (decide (i ≥ (0 : Int)))
 (.ite (decide ((0 : Int) ≤ i) && decide (i < (↑old.length : Int)))
  (.ite (decide (fresh.length ≤ nat_lit 4294967296))
   (.ite ((findIx (isNm ((old.getD i.toNat V.top).cell (0 : Nat)).toS) fresh (0 : Nat)).isSome)
    (.ite (decide ((0 : Int) ≤ (↑((findIx (isNm ((old.getD i.toNat V.top).cell (0 : Nat)).toS) fresh (0 : Nat)).getD (0 : Nat)) : Int)) && decide ((↑((findIx (isNm ((old.getD i.toNat V.top).cell (0 : Nat)).toS) fresh (0 : Nat)).getD (0 : Nat)) : Int) < (↑fresh.length : Int)))
     (.ite (decide ((0 : Int) ≤ i) && decide (i < (↑old.length : Int)))
      (.ite (((fresh.getD (↑((findIx (isNm ((old.getD i.toNat V.top).cell (0 : Nat)).toS) fresh (0 : Nat)).getD (0 : Nat)) : Int).toNat V.top).cell (1 : Nat)).toI != ((old.getD i.toNat V.top).cell (1 : Nat)).toI)
       (.ite (decide ((0 : Int) ≤ i) && decide (i < (↑old.length : Int)))
        (.ret ((Ex.normal, [V.seq (nat_lit 48) old, V.seq (nat_lit 48) fresh, V.str ((old.getD i.toNat V.top).cell (0 : Nat)).toS, V.int IntKind.i64 (IntKind.i64.wrap (i - (1 : Int)))], [])))
        .fail)
       (.ret ((Ex.normal, [V.seq (nat_lit 48) old, V.seq (nat_lit 48) fresh, V.str first, V.int IntKind.i64 (IntKind.i64.wrap (i - (1 : Int)))], []))))
      .fail)
     .fail)
    (.ret ((Ex.normal, [V.seq (nat_lit 48) old, V.seq (nat_lit 48) fresh, V.str first, V.int IntKind.i64 (IntKind.i64.wrap (i - (1 : Int)))], []))))
   .fail)
  .fail)
 (.ret ((Ex.exit (nat_lit 2), [V.seq (nat_lit 48) old, V.seq (nat_lit 48) fresh, V.str first], []))))).eval := by kernel_rfl
theorem fst_law : LoopLaw E4 0 (loopB Try.f4 19) := by
  refine ⟨fun vs _ => (match vs with | [_, _, _, .int _ k] => (k + 1).toNat | _ => 0), fun vs os r h => ?_⟩
  rw [show loopKey (loopB Try.f4 19) = 19 from by kernel_rfl] at h ⊢
  replace h : (LFst vs os).eval = some r := h
  unfold LFst at h
  split at h
  · rename_i old fresh first i
    obtain ⟨h1, h2⟩ := eval_test h
    simp only [Bool.and_eq_true, decide_eq_true_eq] at h1
    obtain ⟨⟨⟨h3, h4⟩, h5⟩, h6⟩ := h1
    rw [fst_step]
    by_cases hk : i ≥ 0
    · have hkn : i.toNat < old.length := by omega
      have ek : (i + 1).toNat = i.toNat + 1 := by omega
      have et : old.take (i.toNat + 1) = old.take i.toNat ++ [old.getD i.toNat .top] := by rw [getD_lt hkn]; exact List.take_succ_eq_append_getElem hkn
      have ew := wrap_i64 (show -9223372036854775808 ≤ i - 1 by omega) (by omega)
      rw [ek, et] at h2
      obtain ⟨v, hv⟩ : ∃ v, v = old.getD i.toNat .top := ⟨_, rfl⟩
      rw [← hv] at h2 ⊢
      have c0 : (v.cell 0).toS = nmV v := rfl
      have c1 : (v.cell 1).toI = tyV v := rfl
      have go : ∀ d, pickNm (isChg fresh v) (nmV v) first = d → ∃ z, some (Ex.normal, [V.seq 48 old, V.seq 48 fresh, V.str d, V.int .i64 (i - 1)], ([] : List Ob)) = some z ∧ LoopNext E4 19 (fun vs _ => (match vs with | [_, _, _, .int _ k] => (k + 1).toNat | _ => 0)) [V.seq 48 old, V.seq 48 fresh, V.str first, V.int .i64 i] [] r z := by
        intro d hd
        refine ⟨_, rfl, by show (i - 1 + 1).toNat < (i + 1).toNat; omega, ?_⟩
        show (LFst [V.seq 48 old, V.seq 48 fresh, V.str d, V.int .i64 (i - 1)] []).eval = some r
        unfold LFst
        rw [← h2]
        simp only
        rw [show i - 1 + 1 = i by omega, chgFirst_append, hd]
        simp [Tr.test, eval_ite, h5, h6, show -1 ≤ i - 1 by omega, show i - 1 < (old.length : Int) by omega]
      simp only [eval_ite, hk, show (0 : Int) ≤ i by omega, h4, show fresh.length ≤ 4294967296 by omega, decide_true, Bool.and_self, if_true, c0, c1, ew]
      have gu : isChg fresh v = match findIx (isNm (nmV v)) fresh 0 with | some k => tyV (fresh.getD k .top) != tyV v | none => false := rfl
      cases hf : findIx (isNm (nmV v)) fresh 0 with
      | none =>
        rw [hf] at gu
        simp only [Option.isSome_none, Bool.false_eq_true, if_false]
        exact go first (by rw [gu]; rfl)
      | some j =>
        have hj := (findIx_lt hf).2
        rw [hf] at gu
        replace gu : isChg fresh v = (tyV (fresh.getD j .top) != tyV v) := gu
        simp only [Option.isSome_some, Option.getD_some, if_true, Int.toNat_natCast, show ((0 : Int) ≤ (j : Int)) by omega, show ((j : Int) < fresh.length) by omega, decide_true, Bool.and_self]
        split
        · rename_i hq
          exact go _ (by rw [gu, show (tyV (fresh.getD j .top) != tyV v) = true from hq]; rfl)
        · rename_i hq
          exact go _ (by rw [gu, show (tyV (fresh.getD j .top) != tyV v) = false from Bool.eq_false_iff.2 hq]; rfl)
    · have ei : i = -1 := by omega
      subst ei
      simp only [eval_ite, show decide ((-1 : Int) ≥ 0) = false from rfl, Bool.false_eq_true, if_false]
      exact ⟨_, rfl, by simpa [chgFirst, eval_ret, LoopNext] using h2⟩
  · simp [Tr.eval] at h
theorem keeps_run (a b : List V) : (runF E4 false Try.f4 [.seq 70 a, .seq 70 b] []).eval = ((Tr.ite (!decide ((↑a.length : Int) > (60 : Int)))
 (.ite (decide ((↑b.length : Int) > (60 : Int)))
  (.ret (Out.ret (V.bool true) []))
  (.ite (decide (a.length ≤ (65536 : Nat)))
   (.ite (decide (b.length ≤ (65536 : Nat)))
    (.ite (decide ((madeRun a [] []).fst.length ≤ (65536 : Nat)) && decide ((madeRun b [] []).fst.length ≤ (65536 : Nat)))
     (.ite ((valsOf (madeRun a [] []).fst (madeRun b [] []).fst (madeRun a [] []).snd).isSome)
      (.ite (decide ((madeRun a [] []).fst.length ≤ (65536 : Nat)) && decide ((madeRun b [] []).fst.length ≤ (65536 : Nat)))
       (.ite (!(↑((valsOf (madeRun a [] []).fst (madeRun b [] []).fst (madeRun a [] []).snd).getD []).length : Int) != (↑(madeRun b [] []).fst.length : Int))
        (.ite ((↑(slotsOf (madeRun a [] []).fst (madeRun b [] []).fst).length : Int) != (↑(madeRun b [] []).fst.length : Int))
         (.ret (Out.ret (V.bool false) []))
         (.ite (pd (∃ K M, KeepF (madeRun a [] []).fst (madeRun a [] []).snd (madeRun b [] []).fst ((valsOf (madeRun a [] []).fst (madeRun b [] []).fst (madeRun a [] []).snd).getD []) (slotsOf (madeRun a [] []).fst (madeRun b [] []).fst) K M) && decide ((0 : Int) ≤ (0 : Int)))
          (.ite (decide ((-1 : Int) ≤ IntKind.i64.wrap ((↑(madeRun a [] []).fst.length : Int) - (1 : Int))) && decide (IntKind.i64.wrap ((↑(madeRun a [] []).fst.length : Int) - (1 : Int)) < (↑(madeRun a [] []).fst.length : Int)) && decide ((madeRun b [] []).fst.length ≤ (65536 : Nat)) && decide ((madeRun a [] []).fst.length ≤ (65536 : Nat)))
           (.ite (decide ((madeRun a [] []).fst.length ≤ (65536 : Nat)) && decide ((madeRun b [] []).fst.length ≤ (65536 : Nat)))
            (.ite (decide ((madeRun a [] []).fst.length ≤ (65536 : Nat)) && decide ((madeRun b [] []).fst.length ≤ (65536 : Nat)))
             (.ite ((chgOf (madeRun a [] []).fst (madeRun b [] []).fst (3 : Int)).getD [] == (chgFirst (madeRun b [] []).fst (List.take (IntKind.i64.wrap ((↑(madeRun a [] []).fst.length : Int) - (1 : Int)) + (1 : Int)).toNat (madeRun a [] []).fst)).getD [])
              (.ite ((chgOf (madeRun a [] []).fst (madeRun b [] []).fst (3 : Int)).isSome == !(chgFirst (madeRun b [] []).fst (List.take (IntKind.i64.wrap ((↑(madeRun a [] []).fst.length : Int) - (1 : Int)) + (1 : Int)).toNat (madeRun a [] []).fst)).getD [] == [])
               (.ite (!(chgOf (madeRun a [] []).fst (madeRun b [] []).fst (10 : Int)).isSome)
                (.ret (Out.ret (V.bool true) []))
                (.ret (Out.ret (V.bool false) [])))
               (.ret (Out.ret (V.bool false) [])))
              (.ret (Out.ret (V.bool false) [])))
             .fail)
            .fail)
           .fail)
          .fail))
        (.ret (Out.ret (V.bool false) [])))
       .fail)
      (.ite (decide ((madeRun a [] []).fst.length ≤ (65536 : Nat)) && decide ((madeRun b [] []).fst.length ≤ (65536 : Nat)))
       (.ret (Out.ret (V.bool false) []))
       .fail))
     .fail)
    .fail)
   .fail))
 (.ret (Out.ret (V.bool true) [])))).eval := by kernel_rfl


noncomputable def mKeeps : Model
  | [.seq 70 a, .seq 70 b], [] => .test (pd (Ons a ∧ Ons b)) (.ret (.ret (.bool true) []))
  | _, _ => .fail
theorem kept_on {l : List V} (h : Ons l) : ∀ x ∈ keptOf l [], fitOn x := fun x hx => by
  rcases kept_mem l [] x hx with h1 | h1
  · cases h1
  · exact h x h1
theorem sees_on {x : V} {p : Int} (h : 0 ≤ p) (h2 : p < 10) : seesV (onVar x) p = true := by
  show (decide ((0 : Int) ≤ p) && decide (p < 10)) = true
  simp [h, h2]
theorem keeps_holds : Holds T tG Try.prog 4 mKeeps := by
  refine holds_of 4 CL okL L4 (fn := Try.f4) (c := (Try.f4.body).getD .skip) (by kernel_rfl) (by kernel_rfl) (by kernel_rfl) (by kernel_rfl) mKeeps ?_
  intro args objs out h
  unfold mKeeps at h
  split at h
  · rename_i a b
    obtain ⟨h1, h2⟩ := eval_test h
    rw [pd_iff] at h1
    obtain ⟨ha, hb⟩ := h1
    refine ⟨loops_two (by kernel_rfl) keeps_law fst_law, ?_⟩
    show (runF E4 false Try.f4 _ _).eval = _
    rw [keeps_run, ← h2]
    by_cases la : (a.length : Int) > 60
    · simp [eval_ite, la, eval_ret]
    · by_cases lb : (b.length : Int) > 60
      · simp [eval_ite, la, lb, eval_ret]
      · have kl := (kept_len a []).2
        have ml := (kept_len b []).2
        simp only [List.length_nil, Nat.zero_add] at kl ml
        have fk := kept_on ha
        have fm := kept_on hb
        obtain ⟨K, hK⟩ : ∃ K, K = keptOf a [] := ⟨_, rfl⟩
        obtain ⟨M, hM⟩ : ∃ M, M = keptOf b [] := ⟨_, rfl⟩
        rw [made_kept a, made_kept b, ← hK, ← hM]
        rw [← hK] at kl fk
        rw [← hM] at ml fm
        have hv := vals_kept fk fm
        have c1 : chgOf (K.map onVar) (M.map onVar) 3 = chgFirst (M.map onVar) (K.map onVar) := chgL_all _ 0 rfl (fun v hv => by
          obtain ⟨x, _, rfl⟩ := List.mem_map.1 hv
          exact sees_on (by omega) (by omega))
        have c2 : chgOf (K.map onVar) (M.map onVar) 10 = none := by
          unfold chgOf
          rw [inFrom_none _ 0 (fun v hv => by
            obtain ⟨x, _, rfl⟩ := List.mem_map.1 hv
            rfl)]
          rfl
        have hp : pd (∃ K' M', KeepF (K.map onVar) (K.map onVal) (M.map onVar) (M.map (carried K)) (slotsOf (K.map onVar) (M.map onVar)) K' M') = true := pd_iff.2 ⟨K, M, fk, fm, rfl, rfl, rfl, rfl, rfl, by omega, by omega⟩
        have w1 : IntKind.i64.wrap ((K.length : Int) - 1) = (K.length : Int) - 1 := wrap_i64 (by omega) (by omega)
        have tk : (K.map onVar).take ((K.length : Int) - 1 + 1).toNat = K.map onVar := List.take_of_length_le (by simp)
        simp only [eval_ite, la, lb, hv, c1, c2, hp, w1, tk, slots_len, List.length_map, show a.length ≤ 65536 by omega, show b.length ≤ 65536 by omega, show K.length ≤ 65536 by omega, show M.length ≤ 65536 by omega, decide_true, decide_false, Bool.not_false, Bool.not_true, Bool.and_self, if_true, Bool.false_eq_true, if_false, Option.isSome_some, Option.isSome_none, Option.getD_some, bne_self_eq_false, show (0 : Int) ≤ 0 from Int.le_refl 0, show (-1 : Int) ≤ (K.length : Int) - 1 by omega, show (K.length : Int) - 1 < (K.length : Int) by omega]
        cases hq : chgFirst (M.map onVar) (K.map onVar) with
        | none => simp [eval_ret]
        | some n =>
          obtain ⟨v, hv, hn⟩ := chgFirst_nm hq
          obtain ⟨x, _, rfl⟩ := List.mem_map.1 hv
          have : n ≠ [] := by
            rw [← hn]
            show onNm x ≠ []
            simp [onNm]
          simp [eval_ret, this]
  · simp [Tr.eval] at h
end Go.Proofs.Ytecplbjggbelbaa
