/- Carry: variable, Made, of, turned. -/
import Derived.Test.YtecplbjggbelbaaCD
namespace Go.Proofs.Ytecplbjggbelbaa
open Go Go.AH
set_option maxRecDepth 100000
def mVar : Model
  | [.str n, .int .i64 t, .int .i64 a, .int .i64 b], [] => .ret (.ret (.agg [.str n, .int .i64 t, .int .i64 0, .int .i64 a, .int .i64 b]) [])
  | _, _ => .fail
theorem var_holds : Holds T tG Try.prog 25 mVar := by
  refine holds_of 25 [] ok_nil L0 (fn := Try.f25) (c := (Try.f25.body).getD .skip) (by kernel_rfl) (by kernel_rfl) (by kernel_rfl) (by kernel_rfl) mVar ?_
  intro args objs out h
  unfold mVar at h
  split at h
  · refine ⟨loops_none (by kernel_rfl), ?_⟩
    rw [← h]
    kernel_rfl
  · simp [Tr.eval] at h

/- Made. -/
def onNm (x : V) : List UInt8 := [UInt8.ofNat (IntKind.u8.wrap (97 + (x.cell 0).toI.tmod 20)).toNat]
def onT (x : V) : Int := IntKind.i64.wrap (1 + IntKind.i64.wrap ((x.cell 1).toI.tmod 3))
def andI (a b : Int) : Int := IntKind.i64.wrap (BitVec.ofInt IntKind.i64.bits a &&& BitVec.ofInt IntKind.i64.bits b).toNat
def onN (x : V) : Int := match onT x == 2 with
  | true => andI (x.cell 2).toI 1
  | false => (match onT x == 3 with | true => andI (x.cell 2).toI 4611686018427387903 | false => (x.cell 2).toI)
def onVar (x : V) : V := .agg [.str (onNm x), .int .i64 (onT x), .int .i64 0, .int .i64 0, .int .i64 10]
def onVal (x : V) : V := .agg [.int .i64 (onT x), .int .i64 (onN x)]
/-- Which of them are kept. -/
def keptOf : List V → List V → List V
  | [], acc => acc
  | x :: r, acc => (match (findIx (isNm (onNm x)) (acc.map onVar) 0).isSome with | true => keptOf r acc | false => keptOf r (acc ++ [x]))
def rMade (acc : List V) : Tr (Ex × List V × List Ob) := .ret (.exit 0, [.full 48 0 0 (acc.map onVar).length, .full 44 1 0 (acc.map onVal).length], [.row false 0 48 (acc.map onVar), .row false 0 44 (acc.map onVal)])
def madeRun : List V → List V → List V → List V × List V
  | [], os, qs => (os, qs)
  | x :: r, os, qs => (match (findIx (isNm (onNm x)) os 0).isSome with | true => madeRun r os qs | false => madeRun r (os ++ [onVar x]) (qs ++ [onVal x]))
theorem madeRun_kept : ∀ (l acc : List V), madeRun l (acc.map onVar) (acc.map onVal) = ((keptOf l acc).map onVar, (keptOf l acc).map onVal)
  | [], acc => rfl
  | x :: r, acc => by
    unfold madeRun keptOf
    cases (findIx (isNm (onNm x)) (acc.map onVar) 0).isSome with
    | true => exact madeRun_kept r acc
    | false => simpa using madeRun_kept r (acc ++ [x])
def rMd (x : List V × List V) : Tr (Ex × List V × List Ob) := .ret (.exit 0, [.full 48 0 0 x.1.length, .full 44 1 0 x.2.length], [.row false 0 48 x.1, .row false 0 44 x.2])
def lMade (us os qs : List V) (n m : Nat) (k : Int) : Tr (Ex × List V × List Ob) :=
  .test (decide (0 ≤ k) && decide (us.length ≤ 65536) && decide (os.length ≤ k) && decide (qs.length ≤ k) && decide (n = os.length) && decide (m = qs.length)) (rMd (madeRun (us.drop k.toNat) os qs))
def LMade : List V → List Ob → Tr (Ex × List V × List Ob)
  | [.seq 70 us, .full 48 0 0 n, .full 44 1 0 m, .int .i64 k], [.row false 0 48 os, .row false 0 44 qs] => lMade us os qs n m k
  | _, _ => .fail
def E19 : Env := EF 19 [(23, mFind)] fun key => (match key with | 4 => LMade | _ => fun _ _ => .fail)
def nxMd (us os qs : List V) (k : Int) : Ex × List V × List Ob := (.normal, [.seq 70 us, .full 48 0 0 os.length, .full 44 1 0 qs.length, .int .i64 (IntKind.i64.wrap (k + 1))], [.row false 0 48 os, .row false 0 44 qs])
theorem made_step (us os qs : List V) (k : Int) : (loopStep E19 0 4 (loopB Try.f19 4) [.seq 70 us, .full 48 0 0 os.length, .full 44 1 0 qs.length, .int .i64 k] [.row false 0 48 os, .row false 0 44 qs]).eval =
  (Tr.ite (decide (k < ↑us.length))
 (.ite (decide (0 ≤ k) && decide (k < ↑us.length))
  (.ite (decide (os.length ≤ lim))
  (.ite (findIx (isNm (onNm (us.getD k.toNat V.top))) os 0).isSome
   (.ret (nxMd us os qs k))
   (.ite (decide (0 ≤ k) && decide (k < ↑us.length))
    (.ite (decide (0 ≤ k) && decide (k < ↑us.length))
     (.ite (onT (us.getD k.toNat V.top) == 2)
      (.ite (decide (os.length + 1 ≤ 4294967296)) (.ite (decide (qs.length + 1 ≤ 4294967296))
        (.ret (nxMd us (os ++ [onVar (us.getD k.toNat V.top)]) (qs ++ [.agg [.int .i64 (onT (us.getD k.toNat V.top)), .int .i64 (andI ((us.getD k.toNat V.top).cell 2).toI 1)]]) k)) .fail) .fail)
      (.ite (onT (us.getD k.toNat V.top) == 3)
       (.ite (decide (os.length + 1 ≤ 4294967296)) (.ite (decide (qs.length + 1 ≤ 4294967296))
        (.ret (nxMd us (os ++ [onVar (us.getD k.toNat V.top)]) (qs ++ [.agg [.int .i64 (onT (us.getD k.toNat V.top)), .int .i64 (andI ((us.getD k.toNat V.top).cell 2).toI 4611686018427387903)]]) k)) .fail) .fail)
       (.ite (decide (os.length + 1 ≤ 4294967296)) (.ite (decide (qs.length + 1 ≤ 4294967296))
        (.ret (nxMd us (os ++ [onVar (us.getD k.toNat V.top)]) (qs ++ [.agg [.int .i64 (onT (us.getD k.toNat V.top)), .int .i64 ((us.getD k.toNat V.top).cell 2).toI]]) k)) .fail) .fail)))
     .fail)
    .fail)) .fail)
  .fail)
 (.ret ((Ex.exit 0, [V.full 48 0 0 os.length, V.full 44 1 0 qs.length], [Ob.row false 0 48 os, Ob.row false 0 44 qs])))).eval := by kernel_rfl
theorem made_law : LoopLaw E19 0 (loopB Try.f19 4) := by
  refine ⟨fun vs _ => (match vs with | [.seq _ vs, _, _, .int _ k] => vs.length - k.toNat | _ => 0), fun vs os r h => ?_⟩
  rw [show loopKey (loopB Try.f19 4) = 4 from by kernel_rfl] at h ⊢
  replace h : (LMade vs os).eval = some r := h
  unfold LMade at h
  split at h
  · rename_i us n m k os qs
    unfold lMade at h
    obtain ⟨h1, h2⟩ := eval_test h
    simp only [Bool.and_eq_true, decide_eq_true_eq] at h1
    obtain ⟨⟨⟨⟨⟨h3, h4⟩, h5⟩, h6⟩, rfl⟩, rfl⟩ := h1
    rw [made_step]
    by_cases hk : k < (us.length : Int)
    · have hkn : k.toNat < us.length := by omega
      have ek : (k + 1).toNat = k.toNat + 1 := by omega
      have ew := wrap_i64 (show -9223372036854775808 ≤ k + 1 by omega) (by omega)
      rw [drop_lt hkn, madeRun] at h2
      obtain ⟨x, hx⟩ : ∃ x, x = us.getD k.toNat V.top := ⟨_, rfl⟩
      rw [← hx] at h2 ⊢
      simp only [eval_ite, hk, h3, lim, show os.length ≤ 4294967296 by omega, decide_true, Bool.and_self, if_true, show os.length + 1 ≤ 4294967296 by omega, show qs.length + 1 ≤ 4294967296 by omega]
      cases hp : (findIx (isNm (onNm x)) os 0).isSome with
      | true =>
        rw [hp] at h2
        refine ⟨nxMd us os qs k, rfl, ?_, ?_⟩
        · rw [ew]; show us.length - (k + 1).toNat < us.length - k.toNat; omega
        · rw [ew]
          show (lMade us os qs os.length qs.length (k + 1)).eval = some r
          unfold lMade
          rw [ek, ← h2]
          simp [Tr.test, eval_ite, h4, show (0 : Int) ≤ k + 1 by omega, show (os.length : Int) ≤ k + 1 by omega, show (qs.length : Int) ≤ k + 1 by omega]
      | false =>
        rw [hp] at h2
        have e : ∀ (P : V → Ex × List V × List Ob), (if (onT x == 2) = true then (Tr.ret (P (.agg [.int .i64 (onT x), .int .i64 (andI (x.cell 2).toI 1)]))).eval else if (onT x == 3) = true then (Tr.ret (P (.agg [.int .i64 (onT x), .int .i64 (andI (x.cell 2).toI 4611686018427387903)]))).eval else (Tr.ret (P (.agg [.int .i64 (onT x), .int .i64 (x.cell 2).toI]))).eval) = some (P (onVal x)) := fun P => by
          unfold onVal onN
          cases onT x == 2 <;> cases onT x == 3 <;> rfl
        refine ⟨nxMd us (os ++ [onVar x]) (qs ++ [onVal x]) k, e (fun v => nxMd us (os ++ [onVar x]) (qs ++ [v]) k), ?_, ?_⟩
        · rw [ew]; show us.length - (k + 1).toNat < us.length - k.toNat; omega
        · rw [ew]
          show (lMade us (os ++ [onVar x]) (qs ++ [onVal x]) (os ++ [onVar x]).length (qs ++ [onVal x]).length (k + 1)).eval = some r
          unfold lMade
          rw [ek, ← h2]
          simp [Tr.test, eval_ite, h4, show (0 : Int) ≤ k + 1 by omega, show (os.length : Int) ≤ k by omega, show (qs.length : Int) ≤ k by omega]
    · rw [List.drop_of_length_le (by omega)] at h2
      simp only [eval_ite, hk, decide_false]
      exact ⟨_, rfl, by simpa [madeRun, rMd, eval_ret, LoopNext] using h2⟩
  · simp [Tr.eval] at h
def mMade : Model
  | [.seq 70 us], [] => .test (decide (us.length ≤ 65536)) (.ret (.ret (.tup [.seq 48 (madeRun us [] []).1, .seq 44 (madeRun us [] []).2]) []))
  | _, _ => .fail
theorem made_run (us : List V) : (runF E19 false Try.f19 [.seq 70 us] []).eval =
  (Tr.ite (decide ((0 : Int) ≤ 0) && decide (us.length ≤ 65536) && decide ((([] : List V).length : Int) ≤ 0) && decide ((([] : List V).length : Int) ≤ 0) && decide (0 = ([] : List V).length) && decide (0 = ([] : List V).length))
    (.ret (.ret (.tup [.seq 48 (madeRun (us.drop (0 : Int).toNat) [] []).1, .seq 44 (madeRun (us.drop (0 : Int).toNat) [] []).2]) [])) .fail).eval := by kernel_rfl
theorem made_holds : Holds T tG Try.prog 19 mMade := by
  refine holds_of 19 [(23, mFind)] (ok_cons find_holds ok_nil) (fun key => (match key with | 4 => LMade | _ => fun _ _ => .fail)) (fn := Try.f19) (c := (Try.f19.body).getD .skip) (by kernel_rfl) (by kernel_rfl) (by kernel_rfl) (by kernel_rfl) mMade ?_
  intro args objs out h
  unfold mMade at h
  split at h
  · rename_i us
    obtain ⟨h1, h2⟩ := eval_test h
    refine ⟨loops_one (by kernel_rfl) made_law, ?_⟩
    show (runF E19 false Try.f19 _ _).eval = _
    rw [made_run, ← h2]
    simp [eval_ite, eval_ret, of_decide_eq_true h1]
  · simp [Tr.eval] at h

/- of. -/
def isKey (n : List UInt8) (p : Int) (v : V) : Bool := nmV v == n && tyV v == p
def rOf (ws : List V) (a b : Int) (o : Option Nat) : Tr (Ex × List V × List Ob) := .ite o.isSome (.ret (.ret, [.box 0 0, .bool true], [.box false [.int .i64 (tA (ws.getD (o.getD 0) .top)), .int .i64 (nA (ws.getD (o.getD 0) .top))]])) (.ret (.exit 0, [.box 0 0, .top], [.box false [.int .i64 a, .int .i64 b]]))
def lOf (us ws : List V) (n : List UInt8) (p k a b : Int) : Tr (Ex × List V × List Ob) :=
  .test (decide (0 ≤ k) && decide (us.length ≤ 65536) && decide (us.length ≤ ws.length)) (rOf ws a b (findIx (isKey n p) (us.drop k.toNat) k.toNat))
def LOf : List V → List Ob → Tr (Ex × List V × List Ob)
  | [.seq 48 us, .seq 44 ws, .str n, .int .i64 p, .box 0 0, .int .i64 k], [.box false [.int .i64 a, .int .i64 b]] => lOf us ws n p k a b
  | _, _ => .fail
def E20 : Env := EF 20 [] fun key => (match key with | 2 => LOf | _ => fun _ _ => .fail)
theorem of_step (us ws : List V) (n : List UInt8) (p k a b : Int) : (loopStep E20 0 2 (loopB Try.f20 2) [.seq 48 us, .seq 44 ws, .str n, .int .i64 p, .box 0 0, .int .i64 k] [.box false [.int .i64 a, .int .i64 b]]).eval =
  (Tr.ite (decide (k < ↑us.length))
 (.ite (decide (0 ≤ k) && decide (k < ↑us.length))
  (.ite (nmV (us.getD k.toNat V.top) == n)
   (.ite (decide (0 ≤ k) && decide (k < ↑us.length))
    (.ite (tyV (us.getD k.toNat V.top) == p)
     (.ite (decide (0 ≤ k) && decide (k < ↑ws.length))
      (.ret ((Ex.ret, [V.box 0 0, V.bool true], [Ob.box false [V.int IntKind.i64 (tA (ws.getD k.toNat V.top)), V.int IntKind.i64 (nA (ws.getD k.toNat V.top))]])))
      .fail)
     (.ret ((Ex.normal, [V.seq 48 us, V.seq 44 ws, V.str n, V.int IntKind.i64 p, V.box 0 0, V.int IntKind.i64 (IntKind.i64.wrap (k + 1))], [Ob.box false [V.int IntKind.i64 a, V.int IntKind.i64 b]]))))
    .fail)
   (.ret ((Ex.normal, [V.seq 48 us, V.seq 44 ws, V.str n, V.int IntKind.i64 p, V.box 0 0, V.int IntKind.i64 (IntKind.i64.wrap (k + 1))], [Ob.box false [V.int IntKind.i64 a, V.int IntKind.i64 b]]))))
  .fail)
 (.ret ((Ex.exit 0, [V.box 0 0, V.top], [Ob.box false [V.int IntKind.i64 a, V.int IntKind.i64 b]])))).eval := by kernel_rfl
theorem of_law : LoopLaw E20 0 (loopB Try.f20 2) := by
  refine ⟨fun vs _ => (match vs with | [.seq _ vs, _, _, _, _, .int _ k] => vs.length - k.toNat | _ => 0), fun vs os r h => ?_⟩
  rw [show loopKey (loopB Try.f20 2) = 2 from by kernel_rfl] at h ⊢
  replace h : (LOf vs os).eval = some r := h
  unfold LOf at h
  split at h
  · rename_i us ws n p k a b
    unfold lOf at h
    obtain ⟨h1, h2⟩ := eval_test h
    simp only [Bool.and_eq_true, decide_eq_true_eq] at h1
    obtain ⟨⟨h3, h4⟩, h5⟩ := h1
    rw [of_step]
    by_cases hk : k < (us.length : Int)
    · have hkn : k.toNat < us.length := by omega
      have ek : (k + 1).toNat = k.toNat + 1 := by omega
      rw [drop_lt hkn, findIx] at h2
      obtain ⟨x, hx⟩ : ∃ x, x = us.getD k.toNat V.top := ⟨_, rfl⟩
      rw [← hx] at h2 ⊢
      simp only [eval_ite, hk, h3, decide_true, Bool.and_self, if_true, show k < (ws.length : Int) by omega, wrap_i64 (show -9223372036854775808 ≤ k + 1 by omega) (by omega)]
      have go : (rOf ws a b (findIx (isKey n p) (us.drop (k.toNat + 1)) (k.toNat + 1))).eval = some r → (lOf us ws n p (k + 1) a b).eval = some r := fun h => by
        unfold lOf
        rw [ek, ← h]
        simp [Tr.test, eval_ite, h4, h5, show (0 : Int) ≤ k + 1 by omega]
      unfold isKey at h2
      cases hp : nmV x == n with
      | false =>
        rw [hp] at h2
        exact ⟨_, rfl, by show us.length - (k + 1).toNat < us.length - k.toNat; omega, go h2⟩
      | true =>
        rw [hp] at h2
        cases hq : tyV x == p with
        | false =>
          rw [hq] at h2
          exact ⟨_, rfl, by show us.length - (k + 1).toNat < us.length - k.toNat; omega, go h2⟩
        | true =>
          rw [hq] at h2
          exact ⟨_, rfl, by simpa [rOf, eval_ret, eval_ite, LoopNext] using h2⟩
    · rw [List.drop_of_length_le (by omega)] at h2
      simp only [eval_ite, hk, decide_false]
      exact ⟨_, rfl, by simpa [findIx, rOf, eval_ret, eval_ite, LoopNext] using h2⟩
  · simp [Tr.eval] at h
def ofA (us ws : List V) (n : List UInt8) (p : Int) : Option V := (findIx (isKey n p) us 0).map fun k => ws.getD k .top
def mOf : Model
  | [.seq 48 us, .seq 44 ws, .str n, .int .i64 p], [] => .test (decide (us.length ≤ 65536) && decide (us.length ≤ ws.length)) (.ret (.ret (.tup [.agg [.int .i64 (tA ((ofA us ws n p).getD (.agg [.int .i64 0, .int .i64 0]))), .int .i64 (nA ((ofA us ws n p).getD (.agg [.int .i64 0, .int .i64 0])))], .bool (ofA us ws n p).isSome]) []))
  | _, _ => .fail
theorem of_run (us ws : List V) (n : List UInt8) (p : Int) : (runF E20 false Try.f20 [.seq 48 us, .seq 44 ws, .str n, .int .i64 p] []).eval =
  (Tr.ite (decide ((0 : Int) ≤ 0) && decide (us.length ≤ 65536) && decide (us.length ≤ ws.length))
    (.ite (findIx (isKey n p) (us.drop (0 : Int).toNat) (0 : Int).toNat).isSome (.ret (.ret (.tup [.agg [.int .i64 (tA (ws.getD ((findIx (isKey n p) (us.drop (0 : Int).toNat) (0 : Int).toNat).getD 0) .top)), .int .i64 (nA (ws.getD ((findIx (isKey n p) (us.drop (0 : Int).toNat) (0 : Int).toNat).getD 0) .top))], .bool true]) []))
     (.ret (.ret (.tup [.agg [.int .i64 0, .int .i64 0], .bool false]) []))) .fail).eval := by kernel_rfl
theorem of_holds : Holds T tG Try.prog 20 mOf := by
  refine holds_of 20 [] ok_nil (fun key => (match key with | 2 => LOf | _ => fun _ _ => .fail)) (fn := Try.f20) (c := (Try.f20.body).getD .skip) (by kernel_rfl) (by kernel_rfl) (by kernel_rfl) (by kernel_rfl) mOf ?_
  intro args objs out h
  unfold mOf at h
  split at h
  · rename_i us ws n p
    obtain ⟨h1, h2⟩ := eval_test h
    simp only [Bool.and_eq_true, decide_eq_true_eq] at h1
    refine ⟨loops_one (by kernel_rfl) of_law, ?_⟩
    show (runF E20 false Try.f20 _ _).eval = _
    rw [of_run, ← h2]
    simp only [eval_ite, h1.1, h1.2, decide_true, Bool.and_self, if_true, Int.toNat_zero, List.drop_zero, show ((0 : Int) ≤ 0) from Int.le_refl 0]
    unfold ofA
    cases findIx (isKey n p) us 0 <;> rfl
  · simp [Tr.eval] at h

/- turned. -/
def mTurn : Model
  | [.seq 48 us, .int .i64 n], [] => .test (decide (0 ≤ n) && decide (n ≤ us.length) && decide (us.length ≤ 65536)) (.ret (.ret (.seq 48 (us.drop n.toNat ++ us.take n.toNat)) []))
  | _, _ => .fail
theorem turn_run (us : List V) (n : Int) : (runF (EF 24 [] L0) false Try.f24 [.seq 48 us, .int .i64 n] []).eval =
  (Tr.ite (decide (0 ≤ n) && decide (n ≤ ↑us.length) && decide ((us.length : Int) ≤ ↑us.length))
 (.ite (decide (0 + (List.take ((us.length : Int).toNat - n.toNat) (List.drop n.toNat us)).length ≤ 4294967296))
  (.ite (decide ((0 : Int) ≤ 0) && decide (0 ≤ n) && decide (n ≤ ↑us.length))
   (.ite (decide (([] ++ List.take ((us.length : Int).toNat - n.toNat) (List.drop n.toNat us)).length + (List.take (n.toNat - Int.toNat 0) (List.drop (Int.toNat 0) us)).length ≤ 4294967296))
    (.ret (Out.ret (V.seq 48 ([] ++ List.take ((us.length : Int).toNat - n.toNat) (List.drop n.toNat us) ++ List.take (n.toNat - Int.toNat 0) (List.drop (Int.toNat 0) us))) []))
    .fail)
   .fail)
  .fail)
 .fail).eval := by kernel_rfl
theorem turn_holds : Holds T tG Try.prog 24 mTurn := by
  refine holds_of 24 [] ok_nil L0 (fn := Try.f24) (c := (Try.f24.body).getD .skip) (by kernel_rfl) (by kernel_rfl) (by kernel_rfl) (by kernel_rfl) mTurn ?_
  intro args objs out h
  unfold mTurn at h
  split at h
  · rename_i us n
    obtain ⟨h1, h2⟩ := eval_test h
    simp only [Bool.and_eq_true, decide_eq_true_eq] at h1
    obtain ⟨⟨g1, g2⟩, g3⟩ := h1
    refine ⟨loops_none (by kernel_rfl), ?_⟩
    rw [turn_run, ← h2]
    have e1 : List.take ((us.length : Int).toNat - n.toNat) (List.drop n.toNat us) = us.drop n.toNat := List.take_of_length_le (by simp)
    have e2 : List.take (n.toNat - Int.toNat 0) (List.drop (Int.toNat 0) us) = us.take n.toNat := by simp
    rw [e1, e2]
    have e3 : (us.drop n.toNat).length ≤ us.length := by simp
    have e4 : (us.take n.toNat).length ≤ us.length := by simp; omega
    simp only [eval_ite, List.nil_append, g1, g2, decide_true, Bool.and_self, if_true, show ((us.length : Int) ≤ us.length) from Int.le_refl _, show ((0 : Int) ≤ 0) from Int.le_refl 0, show 0 + (us.drop n.toNat).length ≤ 4294967296 by omega, show (us.drop n.toNat).length + (us.take n.toNat).length ≤ 4294967296 by omega]
  · simp [Tr.eval] at h
end Go.Proofs.Ytecplbjggbelbaa
