/- Carry: the plain laws of made variables. -/
import Derived.Test.YtecplbjggbelbaaCE
import Derived.Test.YtecplbjggbelbaaAHTop
namespace Go.Proofs.Ytecplbjggbelbaa
open Go Go.AH

def fitOn (x : V) : Prop := 0 ≤ (x.cell 0).toI ∧ (x.cell 0).toI < 256 ∧ 0 ≤ (x.cell 1).toI ∧ (x.cell 1).toI < 256
/-- What comes in: short programs whose numbers are of their kinds. -/
def Ons (l : List V) : Prop := ∀ x ∈ l, fitOn x
theorem and_one (n : Int) : andI n 1 = 0 ∨ andI n 1 = 1 := by
  show IntKind.wrap .i64 ((((BitVec.ofInt 64 n) &&& (BitVec.ofInt 64 1)).toNat : Nat) : Int) = 0 ∨ IntKind.wrap .i64 ((((BitVec.ofInt 64 n) &&& (BitVec.ofInt 64 1)).toNat : Nat) : Int) = 1
  have h : ((BitVec.ofInt 64 n) &&& (BitVec.ofInt 64 1)).toNat = 0 ∨ ((BitVec.ofInt 64 n) &&& (BitVec.ofInt 64 1)).toNat = 1 := by
    rw [BitVec.toNat_and]
    have h2 := Nat.and_le_right (n := (BitVec.ofInt 64 n).toNat) (m := (BitVec.ofInt 64 1).toNat)
    have h3 : (BitVec.ofInt 64 1).toNat = 1 := by decide
    omega
  rcases h with h | h <;> rw [h] <;> decide
theorem and_mask (n : Int) : 0 ≤ andI n 4611686018427387903 := by
  show 0 ≤ IntKind.wrap .i64 ((((BitVec.ofInt 64 n) &&& (BitVec.ofInt 64 4611686018427387903)).toNat : Nat) : Int)
  have h : ((BitVec.ofInt 64 n) &&& (BitVec.ofInt 64 4611686018427387903)).toNat ≤ 4611686018427387903 := by
    rw [BitVec.toNat_and]
    have h2 := Nat.and_le_right (n := (BitVec.ofInt 64 n).toNat) (m := (BitVec.ofInt 64 4611686018427387903).toNat)
    have h3 : (BitVec.ofInt 64 4611686018427387903).toNat = 4611686018427387903 := by decide
    omega
  generalize ((BitVec.ofInt 64 n) &&& (BitVec.ofInt 64 4611686018427387903)).toNat = m at h
  simp [IntKind.wrap, IntKind.bits, IntKind.signed]
  omega
theorem onT_range {x : V} (h : fitOn x) : onT x = 1 ∨ onT x = 2 ∨ onT x = 3 := by
  obtain ⟨_, _, h1, h2⟩ := h
  unfold onT
  have e : (x.cell 1).toI.tmod 3 = (x.cell 1).toI % 3 := Int.tmod_eq_emod_of_nonneg h1
  have w1 : IntKind.i64.wrap ((x.cell 1).toI % 3) = (x.cell 1).toI % 3 := wrap_i64 (by omega) (by omega)
  rw [e, w1, wrap_i64 (by omega) (by omega)]
  omega
theorem chk_on {x : V} (h : fitOn x) : chkI (onT x) (onN x) = 0 := by
  unfold onN
  rcases onT_range h with h | h | h <;> rw [h]
  · simp [chkI]
  · have := and_one (x.cell 2).toI
    rcases this with h | h <;> simp [chkI, h]
  · have := and_mask (x.cell 2).toI
    simp [chkI, this]
theorem chk_on0 {x : V} (h : fitOn x) : chkI (onT x) 0 = 0 := by
  rcases onT_range h with h | h | h <;> rw [h] <;> decide
theorem defT_on {x : V} (h : fitOn x) : defT (onT x) = onT x := by
  unfold defT
  rw [chk_on0 h]
  rfl

theorem findIx_none {p : V → Bool} : ∀ {l : List V} {i : Nat}, findIx p l i = none → ∀ v ∈ l, p v = false
  | [], _, _, v, hv => by cases hv
  | u :: r, i, h, v, hv => by
    unfold findIx at h
    split at h
    · cases h
    · rename_i hp
      rcases List.mem_cons.1 hv with rfl | hv
      · exact hp
      · exact findIx_none h v hv
theorem findIx_some {p : V → Bool} : ∀ {l : List V} {i k : Nat}, findIx p l i = some k → i ≤ k ∧ ∃ v, l[k - i]? = some v ∧ p v = true
  | [], _, _, h => by cases h
  | u :: r, i, k, h => by
    unfold findIx at h
    split at h
    · rename_i hp
      cases h
      exact ⟨Nat.le_refl _, u, by simp, hp⟩
    · obtain ⟨h1, v, h2, h3⟩ := findIx_some h
      refine ⟨by omega, v, ?_, h3⟩
      rw [show k - i = (k - (i + 1)) + 1 from by omega]
      exact h2
theorem findIx_congr {p q : V → Bool} : ∀ {l : List V} {i : Nat}, (∀ v ∈ l, p v = q v) → findIx p l i = findIx q l i
  | [], _, _ => rfl
  | u :: r, i, h => by
    unfold findIx
    rw [h u (by simp), findIx_congr (fun v hv => h v (by simp [hv]))]
theorem findIx_map {p : V → Bool} {f : V → V} : ∀ {l : List V} {i : Nat}, findIx p (l.map f) i = findIx (fun v => p (f v)) l i
  | [], _ => rfl
  | u :: r, i => by
    simp only [List.map_cons, findIx]
    rw [findIx_map]
theorem getD_map {f : V → V} {l : List V} {k : Nat} (h : k < l.length) : (l.map f).getD k .top = f (l.getD k .top) := by
  rw [getD_lt (by simpa using h), getD_lt h, List.getElem_map]

theorem kept_mem : ∀ (l acc : List V), ∀ x ∈ keptOf l acc, x ∈ acc ∨ x ∈ l
  | [], acc, x, h => .inl h
  | y :: r, acc, x, h => by
    unfold keptOf at h
    split at h
    · rcases kept_mem r acc x h with h | h
      · exact .inl h
      · exact .inr (by simp [h])
    · rcases kept_mem r (acc ++ [y]) x h with h | h
      · rcases List.mem_append.1 h with h | h
        · exact .inl h
        · exact .inr (by simp [List.mem_singleton.1 h])
      · exact .inr (by simp [h])
def Diff (K : List V) : Prop := K.Pairwise fun x y => onNm x ≠ onNm y
theorem kept_diff : ∀ (l acc : List V), Diff acc → Diff (keptOf l acc)
  | [], acc, h => h
  | y :: r, acc, h => by
    unfold keptOf
    split
    · exact kept_diff r acc h
    · rename_i hf
      refine kept_diff r _ (List.pairwise_append.2 ⟨h, by simp, fun x hx z hz => ?_⟩)
      rw [List.mem_singleton.1 hz]
      rw [findIx_map] at hf
      have h1 : findIx (fun v => isNm (onNm y) (onVar v)) acc 0 = none := by
        cases hq : findIx (fun v => isNm (onNm y) (onVar v)) acc 0 with
        | none => rfl
        | some k => rw [hq] at hf; cases hf
      have := findIx_none h1 x hx
      have e : isNm (onNm y) (onVar x) = (onNm x == onNm y) := rfl
      rw [e] at this
      simpa using this
theorem kept_len : ∀ (l acc : List V), acc.length ≤ (keptOf l acc).length ∧ (keptOf l acc).length ≤ acc.length + l.length
  | [], acc => ⟨Nat.le_refl _, by simp [keptOf]⟩
  | y :: r, acc => by
    unfold keptOf
    split
    · have := kept_len r acc
      simp only [List.length_cons]
      omega
    · have := kept_len r (acc ++ [y])
      simp only [List.length_append, List.length_cons, List.length_nil] at this ⊢
      omega
theorem kept_pos (l : List V) (h : l ≠ []) : 0 < (keptOf l []).length := by
  cases l with
  | nil => exact absurd rfl h
  | cons x r =>
    have : keptOf (x :: r) [] = keptOf r [x] := rfl
    rw [this]
    exact Nat.lt_of_lt_of_le (by simp) (kept_len r [x]).1
theorem made_kept (l : List V) : madeRun l [] [] = ((keptOf l []).map onVar, (keptOf l []).map onVal) := madeRun_kept l []

/-- Whether y's variable is x's. -/
def sameOn (y x : V) : Bool := onNm y == onNm x && onT y == onT x
def carried (K : List V) (y : V) : V := match findIx (sameOn y) K 0 with | some k => onVal (K.getD k .top) | none => .agg [.int .i64 (onT y), .int .i64 0]
theorem slot_on (K : List V) (y : V) : slotI (K.map onVar) (onVar y) = ixI (findIx (sameOn y) K 0) := by
  unfold slotI
  rw [findIx_map]
  rfl
theorem okAll_on : ∀ (K : List V), (∀ x ∈ K, fitOn x) → okAll (K.map onVal) (K.map onVar) = true
  | [], _ => rfl
  | x :: r, h => by
    simp only [List.map_cons, okAll, okAll_on r (fun y hy => h y (by simp [hy])), Bool.and_true]
    show (chkI (onT x) (onN x) == 0 && onT x == onT x) = true
    rw [chk_on (h x (by simp))]
    simp
theorem valRun_all {ws : List V} {g h : V → V} : ∀ (M acc : List V), (∀ y ∈ M, chkI (tyV (h y)) 0 = 0) → valRun ws (M.map g) (M.map h) acc = (true, acc ++ M.map fun y => valV ws (tyV (h y)) (g y).toI)
  | [], acc, _ => by simp [valRun]
  | y :: r, acc, hc => by
    have h0 := hc y (by simp)
    simp only [List.map_cons, valRun, h0, bne_self_eq_false]
    rw [valRun_all r _ (fun z hz => hc z (by simp [hz]))]
    simp
theorem val_on {K : List V} {y : V} (hy : fitOn y) : valV (K.map onVal) (onT y) (ixI (findIx (sameOn y) K 0)) = carried K y := by
  unfold carried
  cases h : findIx (sameOn y) K 0 with
  | none =>
    show V.agg [.int .i64 (defT (onT y)), .int .i64 0] = _
    rw [defT_on hy]
  | some k =>
    have hk := (findIx_lt h).2
    have e : ixI (some k) = (k : Int) := rfl
    rw [e]
    unfold valV
    rw [decide_eq_true (show (k : Int) ≥ 0 by omega), Int.toNat_natCast, getD_map (by omega)]
    rfl
theorem vals_kept {K M : List V} (hK : ∀ x ∈ K, fitOn x) (hM : ∀ y ∈ M, fitOn y) : valsOf (K.map onVar) (M.map onVar) (K.map onVal) = some (M.map (carried K)) := by
  unfold valsOf
  rw [okAll_on K hK, show decide ((K.map onVal).length = (K.map onVar).length) = true by simp]
  unfold slotsOf
  rw [List.map_map]
  simp only [Bool.and_self]
  rw [valRun_all (h := onVar) M [] (fun y hy => chk_on0 (hM y hy))]
  simp only [List.nil_append, Option.some.injEq]
  refine List.map_congr_left fun y hy => ?_
  show valV (K.map onVal) (onT y) (slotI (K.map onVar) (onVar y)) = _
  rw [slot_on, val_on (hM y hy)]

/-- The first variable that has another type. -/
def chgFirst (new : List V) : List V → Option (List UInt8)
  | [] => none
  | v :: r => (match isChg new v with | true => some (nmV v) | false => chgFirst new r)
theorem chgL_all {old new : List V} {p : Int} : ∀ (r : List V) (i : Nat), old.drop i = r → (∀ v ∈ r, seesV v p = true) → chgL old new (inFrom p r i) = chgFirst new r
  | [], i, _, _ => rfl
  | v :: r, i, hd, h => by
    have hi : i < old.length := by
      rcases Nat.lt_or_ge i old.length with h1 | h1
      · exact h1
      · rw [List.drop_of_length_le h1] at hd; cases hd
    rw [drop_lt hi] at hd
    obtain ⟨h1, h2⟩ := List.cons.inj hd
    have ih := chgL_all (new := new) r (i + 1) h2 (fun u hu => h u (by simp [hu]))
    unfold inFrom chgFirst
    rw [h v (by simp)]
    simp only [chgL]
    rw [show (V.int .i64 (i : Int)).toI.toNat = i from by simp [V.toI], h1, ih]
    cases isChg new v <;> rfl
theorem inFrom_none {p : Int} : ∀ (r : List V) (i : Nat), (∀ v ∈ r, seesV v p = false) → inFrom p r i = []
  | [], _, _ => rfl
  | v :: r, i, h => by
    unfold inFrom
    rw [h v (by simp)]
    exact inFrom_none r (i + 1) (fun u hu => h u (by simp [hu]))
def pickNm (b : Bool) (n d : List UInt8) : List UInt8 := match b with | true => n | false => d
theorem chgFirst_append {new : List V} (v : V) : ∀ (l : List V) (d : List UInt8), (chgFirst new (l ++ [v])).getD d = (chgFirst new l).getD (pickNm (isChg new v) (nmV v) d)
  | [], d => by
    show (match isChg new v with | true => some (nmV v) | false => none).getD d = _
    cases isChg new v <;> rfl
  | u :: r, d => by
    simp only [List.cons_append, chgFirst]
    cases isChg new u with
    | true => rfl
    | false => exact chgFirst_append v r d
theorem chgFirst_nm {new : List V} {n : List UInt8} : ∀ {l : List V}, chgFirst new l = some n → ∃ v ∈ l, nmV v = n
  | [], h => by cases h
  | v :: r, h => by
    unfold chgFirst at h
    split at h
    · cases h; exact ⟨v, by simp, rfl⟩
    · obtain ⟨u, hu, e⟩ := chgFirst_nm h
      exact ⟨u, by simp [hu], e⟩

/- What comes in. -/
theorem seq_forms {T : TypeId → Ty} {w : World} {O : Nat → Prop} : ∀ (vs : List V) (t b o : Nat), RepSeq T w O vs t b o → ∀ v ∈ vs, isFormT (T t) v = true ∧ etaT (T t) v = v
  | [], _, _, _, _, v, hv => by cases hv
  | u :: r, t, b, o, h, v, hv => by
    obtain ⟨h1, _, h3⟩ := h
    rcases List.mem_cons.1 hv with rfl | hv
    · exact h1
    · exact seq_forms r t b _ h3 v hv
theorem fitsL_mem : ∀ {vs : List V}, V.fitsL vs → ∀ v ∈ vs, v.fits
  | [], _, v, hv => by cases hv
  | u :: r, h, v, hv => by
    rcases List.mem_cons.1 hv with rfl | hv
    · exact h.1
    · exact fitsL_mem h.2 v hv
end Go.Proofs.Ytecplbjggbelbaa
