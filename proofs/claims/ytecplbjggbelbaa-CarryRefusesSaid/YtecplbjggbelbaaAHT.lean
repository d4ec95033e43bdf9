/- The types' table: what its rows say of the program's types. -/
import Derived.Test.YtecplbjggbelbaaAHR
namespace Go.AH
open Go Go.RowKit

def zeroVal : Kd → Value
  | .bool => .bool false | .int k => .int k 0 | .str => .string ⟨#[]⟩ | .seq _ => .slice none 0 0 | .ptr => .pointer none | .map => .map none | .func => .nilFunc | .iface => .nilIface | .oth => undef
def isZero : Kd → Value → Bool
  | .bool, .bool b => !b
  | .int k, .int k' n => decide (k = k') && decide (n = 0)
  | .str, .string s => s.data.toList.isEmpty
  | .seq _, .slice none 0 0 => true
  | .ptr, .pointer none => true
  | .map, .map none => true
  | .func, .nilFunc => true
  | .iface, .nilIface => true
  | _, _ => false
def isZeroL : List Kd → List Value → Bool
  | [], [] => true
  | k :: ks, v :: vs => isZero k v && isZeroL ks vs
  | _, _ => false
def aggB (P : Program) (t : TypeId) : Bool := match P.underlying t with | some (.struct _) => true | some (.array ..) => true | _ => false
def basicB (P : Program) (t : TypeId) : Option Kd := match P.underlying t with | some .bool => some .bool | some (.int k) => some (.int k) | some .string => some .str | _ => none
/-- The kinds of a struct's fields, if each is a number, a truth value or a string. -/
def basics (P : Program) (off : Nat) : List Field → Option (List Kd)
  | [] => some []
  | f :: r => match basicB P f.type with
    | some k => if f.name ≠ "_" ∧ f.offset = off then (basics P (off + 1) r).map (k :: ·) else none
    | none => none
def descB (P : Program) (t : TypeId) (ty : Ty) : Bool := match P.underlying t, ty.d with
  | some (.struct fs), .struct gs => ty.agg && decide (gs = fs.toList.map fun f => (f.offset, P.cellsOf f.type, aggB P f.type)) && fs.toList.all (fun f => (P.info? f.type).isSome && (P.underlying f.type).isSome && decide (P.cellsOf f.type ≠ 0))
      && (!ty.eq || (decide (basics P 0 fs.toList = some ty.kinds) && !P.stoodInHeld t && !P.eqGuardType P.depth t))
  | some (.slice e), .slice e' => !ty.agg && decide (e = e')
  | some (.array n e), .array n' e' => ty.agg && !ty.eq && decide (n = n') && decide (e = e') && decide (P.cellsOf e ≠ 0) && (P.info? e).isSome && decide (2 ≤ n)
  | some (.map k e), .map k' e' => !ty.agg && decide (k = k') && decide (e = e')
  | some (.pointer e), .ptr e' => !ty.agg && decide (e = e')
  | some .string, .str => !ty.agg && decide (ty.kinds = [.str])
  | some (.int k), .int k' => !ty.agg && decide (k = k') && decide (ty.kinds = [.int k])
  | some .bool, .bool => !ty.agg && decide (ty.kinds = [.bool])
  | some (.func ..), .func => !ty.agg
  | some (.interface _), .iface => !ty.agg
  | _, _ => false
def rowB (P : Program) (t : TypeId) (ty : Ty) : Bool := match P.info? t with
  | none => false
  | some i => decide (i.size = ty.size) && decide (i.bytes = ty.bytes) && decide (0 < ty.size ∧ ty.size ≤ 255) && decide (ty.bytes ≤ 32768) && decide (ty.kinds.length = ty.size) && descB P t ty
      && (match i.zero with
        | some (.agg z) => ty.agg && isZeroL ty.kinds z.toList
        | some z => !ty.agg && isZeroL ty.kinds [z]
        | none => false)
/-- A table of the program's types. -/
def TyOk (P : Program) (T : TypeId → Ty) : Prop := ∀ t, (T t).ok = true → rowB P t (T t) = true

section
variable {P : Program} {T : TypeId → Ty} {t : TypeId}

structure Row (P : Program) (t : TypeId) (ty : Ty) : Prop where
  info : ∃ i z, P.info? t = some i ∧ i.size = ty.size ∧ i.bytes = ty.bytes ∧ i.zero = some z ∧ isZeroL ty.kinds z.cells.toList = true ∧ (ty.agg = true → ∃ a, z = .agg a) ∧ (ty.agg = false → z.cells = #[z])
  pos : 0 < ty.size
  small : ty.size ≤ 255
  bytes : ty.bytes ≤ 32768
  len : ty.kinds.length = ty.size
  desc : descB P t ty = true

theorem Row.of (h : rowB P t (T t) = true) : Row P t (T t) := by
  unfold rowB at h
  cases hi : P.info? t with
  | none => rw [hi] at h; cases h
  | some i =>
    rw [hi] at h
    simp only [Bool.and_eq_true, decide_eq_true_eq] at h
    obtain ⟨⟨⟨⟨⟨⟨h1, h2⟩, h3⟩, h4⟩, h5⟩, h6⟩, h7⟩ := h
    refine ⟨?_, h3.1, h3.2, h4, h5, h6⟩
    split at h7
    · rename_i z hz
      rw [Bool.and_eq_true] at h7
      exact ⟨i, .agg z, hi, h1, h2, hz, h7.2, fun _ => ⟨z, rfl⟩, fun h => by rw [h] at h7; simp at h7⟩
    · rename_i z hn hz
      rw [Bool.and_eq_true, Bool.not_eq_true'] at h7
      have hc : z.cells = #[z] := by cases z <;> first | rfl | (exact absurd rfl (hn _))
      exact ⟨i, z, hi, h1, h2, hz, by rw [hc]; exact h7.2, fun h => by rw [h] at h7; simp at h7, fun _ => hc⟩
    · cases h7
theorem TyOk.row (hT : TyOk P T) (h : (T t).ok = true) : Row P t (T t) := .of (hT t h)

theorem Row.size {ty : Ty} (h : Row P t ty) (w : World) : (sizeOf t).run P w = .ok ty.size w := by
  obtain ⟨i, z, hi, hs, _⟩ := h.info
  simp [sizeOf, typeInfo, hi, hs]
theorem Row.cellsOf {ty : Ty} (h : Row P t ty) : P.cellsOf t = ty.size := by
  obtain ⟨i, z, hi, hs, _⟩ := h.info
  simp [Program.cellsOf, hi, hs]
theorem Row.agg {ty : Ty} (h : Row P t ty) (w : World) : (isAgg t).run P w = .ok ty.agg w := by
  have hd := h.desc
  unfold descB at hd
  split at hd
  all_goals first
    | (exact absurd hd (by decide))
    | (rename_i hu hq
       simp only [Bool.and_eq_true, Bool.not_eq_true'] at hd
       simp [isAgg, run_underlying hu, hd])
theorem Row.zero {ty : Ty} (h : Row P t ty) (w : World) : ∃ z, (zeroValue t).run P w = .ok z w ∧ isZeroL ty.kinds z.cells.toList = true ∧ (ty.agg = true → ∃ a, z = .agg a) ∧ (ty.agg = false → z.cells = #[z]) := by
  obtain ⟨i, z, hi, _, _, hz, h1, h2, h3⟩ := h.info
  exact ⟨z, by simp [zeroValue, typeInfo, hi, hz], h1, h2, h3⟩
theorem Row.slice {ty : Ty} {e : TypeId} (h : Row P t ty) (hd : ty.d = .slice e) : P.underlying t = some (.slice e) ∧ ty.agg = false := by
  have := h.desc
  unfold descB at this
  split at this <;> rename_i hu hq <;> simp_all
theorem Row.struct {ty : Ty} {gs : List (Nat × Nat × Bool)} (h : Row P t ty) (hd : ty.d = .struct gs) : ∃ fs, P.underlying t = some (.struct fs) ∧ gs = (fs.toList.map fun f => (f.offset, P.cellsOf f.type, aggB P f.type)) ∧ ty.agg = true ∧
    (∀ f ∈ fs.toList, (P.info? f.type).isSome = true ∧ (P.underlying f.type).isSome = true ∧ P.cellsOf f.type ≠ 0) ∧ (ty.eq = true → basics P 0 fs.toList = some ty.kinds ∧ P.stoodInHeld t = false ∧ P.eqGuardType P.depth t = false) := by
  have h0 := h.desc
  unfold descB at h0
  split at h0 <;> rename_i hu hq <;> first | (exact absurd h0 (by decide)) | skip
  all_goals (rw [hd] at hq; simp at hq)
  subst hq
  simp only [Bool.and_eq_true, Bool.or_eq_true, Bool.not_eq_true', decide_eq_true_eq, List.all_eq_true, ne_eq] at h0
  obtain ⟨⟨⟨h1, h2⟩, h3⟩, h4⟩ := h0
  refine ⟨_, hu, h2, h1, fun f hf => ⟨(h3 f hf).1.1, (h3 f hf).1.2, (h3 f hf).2⟩, fun he => ?_⟩
  rcases h4 with h4 | h4
  · rw [he] at h4; cases h4
  · exact ⟨h4.1.1, h4.1.2, h4.2⟩
theorem Row.array {ty : Ty} {n : Nat} {e : TypeId} (h : Row P t ty) (hd : ty.d = .array n e) : P.underlying t = some (.array n e) ∧ ty.agg = true ∧ P.cellsOf e ≠ 0 ∧ (P.info? e).isSome = true ∧ 2 ≤ n := by
  have h0 := h.desc
  unfold descB at h0
  split at h0 <;> rename_i hu hq <;> first | (exact absurd h0 (by decide)) | skip
  all_goals (rw [hd] at hq; simp at hq)
  obtain ⟨rfl, rfl⟩ := hq
  simp only [Bool.and_eq_true, Bool.not_eq_true', decide_eq_true_eq, ne_eq] at h0
  obtain ⟨⟨⟨⟨⟨⟨h1, h2⟩, rfl⟩, rfl⟩, h5⟩, h6⟩, h7⟩ := h0
  exact ⟨hu, h1, h5, h6, h7⟩
theorem Row.map {ty : Ty} {k e : TypeId} (h : Row P t ty) (hd : ty.d = .map k e) : P.underlying t = some (.map k e) := by
  have := h.desc
  unfold descB at this
  split at this <;> rename_i hu hq <;> simp_all
theorem Row.ptr {ty : Ty} {e : TypeId} (h : Row P t ty) (hd : ty.d = .ptr e) : P.underlying t = some (.pointer e) := by
  have := h.desc
  unfold descB at this
  split at this <;> rename_i hu hq <;> simp_all
theorem Row.str {ty : Ty} (h : Row P t ty) (hd : ty.d = .str) : P.underlying t = some .string ∧ ty.agg = false ∧ ty.kinds = [.str] := by
  have := h.desc
  unfold descB at this
  split at this <;> rename_i hu hq <;> simp_all
theorem Row.int {ty : Ty} {k : IntKind} (h : Row P t ty) (hd : ty.d = .int k) : P.underlying t = some (.int k) ∧ ty.agg = false ∧ ty.kinds = [.int k] := by
  have := h.desc
  unfold descB at this
  split at this <;> rename_i hu hq <;> simp_all
theorem Row.bool {ty : Ty} (h : Row P t ty) (hd : ty.d = .bool) : P.underlying t = some .bool ∧ ty.agg = false ∧ ty.kinds = [.bool] := by
  have := h.desc
  unfold descB at this
  split at this <;> rename_i hu hq <;> simp_all
theorem Row.func {ty : Ty} (h : Row P t ty) (hd : ty.d = .func) : ∃ a b c, P.underlying t = some (.func a b c) := by
  have := h.desc
  unfold descB at this
  split at this <;> rename_i hu hq <;> simp_all
theorem Row.under {ty : Ty} (h : Row P t ty) : (P.underlying t).isSome = true := by
  have := h.desc
  unfold descB at this
  split at this <;> rename_i hu hq <;> simp_all

theorem Row.one {ty : Ty} (h : Row P t ty) (ha : ty.agg = false) : ty.size = 1 ∧ ∃ k, ty.kinds = [k] := by
  obtain ⟨i, z, _, _, _, _, h1, _, h3⟩ := h.info
  rw [h3 ha] at h1
  have hl := h.len
  match hk : ty.kinds, h1 with
  | [k], _ => rw [hk] at hl; exact ⟨by simpa using hl.symm, k, rfl⟩
  | [], h1 => simp [isZeroL] at h1
  | _ :: _ :: _, h1 => simp [isZeroL] at h1
variable {w : World} {O : Nat → Prop}
theorem Rep.zeroK {k : Kd} {v : Value} {R : V → Value → Prop} (h : isZero k v = true) : Rep T w O (zeroK k) R v := by
  cases k <;> cases v <;> first | (simp [isZero] at h; done) | skip
  case bool b => simp [isZero] at h; subst h; rfl
  case int k k' n => simp [isZero] at h; obtain ⟨rfl, rfl⟩ := h; rfl
  case str s => exact ⟨s, rfl, by simpa [isZero] using h⟩
  case seq e a n c =>
    cases a <;> cases n <;> cases c <;> first | (simp [isZero] at h; done) | skip
    exact ⟨none, 0, rfl, Nat.le_refl _, .inl rfl⟩
  case ptr a => cases a <;> first | (simp [isZero] at h; done) | rfl
  case map a => cases a <;> first | (simp [isZero] at h; done) | rfl
  case func => rfl
  case iface => rfl
theorem RepL.zeroK {R : V → Value → Prop} : ∀ {ks : List Kd} {l : List Value}, isZeroL ks l = true → RepL T w O (ks.map AH.zeroK) R l
  | [], [], _ => rfl
  | [], _ :: _, h => by simp [isZeroL] at h
  | _ :: _, [], h => by simp [isZeroL] at h
  | k :: ks, x :: l, h => by
    rw [isZeroL, Bool.and_eq_true] at h
    exact ⟨x, l, rfl, Rep.zeroK h.1, RepL.zeroK h.2⟩
theorem isZeroL_len : ∀ {ks : List Kd} {l : List Value}, isZeroL ks l = true → l.length = ks.length
  | [], [], _ => rfl
  | [], _ :: _, h => by simp [isZeroL] at h
  | _ :: _, [], h => by simp [isZeroL] at h
  | k :: ks, x :: l, h => by
    rw [isZeroL, Bool.and_eq_true] at h
    simp [isZeroL_len h.2]
theorem Row.rep_zero {ty : Ty} (h : Row P t ty) (w' : World) (R : V → Value → Prop) : ∃ z, (zeroValue t).run P w' = .ok z w' ∧ Rep T w O (zeroT ty) R z ∧ RepL T w O (zeroT ty).cells R z.cells.toList ∧ z.cells.size = ty.size := by
  obtain ⟨z, hr, hz, h1, h2⟩ := h.zero w'
  have hl := isZeroL_len hz
  have hrep := RepL.zeroK (T := T) (w := w) (O := O) (R := R) hz
  have hlen := h.len
  obtain ⟨size, agg, bytes, kinds, d, eq⟩ := ty
  cases agg with
  | true =>
    obtain ⟨a, rfl⟩ := h1 rfl
    exact ⟨_, hr, ⟨a, rfl, hrep⟩, hrep, by simpa [Value.cells, hlen] using hl⟩
  | false =>
    have hc := h2 rfl
    rw [hc] at hz hl hrep
    match kinds, hz, hl with
    | [k], hz, _ =>
      rw [isZeroL, Bool.and_eq_true] at hz
      refine ⟨z, hr, Rep.zeroK hz.1, ?_, ?_⟩
      · rw [hc]
        have : (AH.zeroT ⟨size, false, bytes, [k], d, eq⟩).cells = [AH.zeroK k] := by cases k <;> rfl
        rw [this]
        exact hrep
      · rw [hc]; simpa using hlen
    | [], _, hl => simp at hl
    | _ :: _ :: _, _, hl => simp at hl
theorem isForm_zeroK {k : Kd} {v : Value} (h : isZero k v = true) : isForm k (AH.zeroK k) = true ∧ eta k (AH.zeroK k) = AH.zeroK k := by
  cases k <;> first | (refine ⟨?_, rfl⟩; simp [isForm, AH.zeroK]; done) | (cases v <;> simp [isZero] at h)
theorem isFormL_zeroK : ∀ {ks : List Kd} {l : List Value}, isZeroL ks l = true → isFormL ks (ks.map AH.zeroK) = true
  | [], [], _ => rfl
  | [], _ :: _, h => by simp [isZeroL] at h
  | _ :: _, [], h => by simp [isZeroL] at h
  | k :: ks, x :: l, h => by
    rw [isZeroL, Bool.and_eq_true] at h
    simp only [List.map_cons, isFormL, Bool.and_eq_true]
    exact ⟨(isForm_zeroK h.1).1, isFormL_zeroK h.2⟩
theorem etaL_self : ∀ {ks : List Kd} {cs : List V} {j : Nat} {v : V}, cs.length = ks.length → (∀ i : Nat, v.cell (j + i) = cs.getD i .top) → (∀ (i : Nat) (k : Kd) (c : V), ks[i]? = some k → cs[i]? = some c → eta k c = c) → etaL ks j v = cs
  | [], [], _, _, _, _, _ => rfl
  | [], _ :: _, _, _, h, _, _ => by simp at h
  | _ :: _, [], _, _, h, _, _ => by simp at h
  | k :: ks, c :: cs, j, v, h, hv, he => by
    have h0 := hv 0
    rw [Nat.add_zero, List.getD_cons_zero] at h0
    rw [etaL, h0, he 0 k c rfl rfl, etaL_self (cs := cs) (by simpa using h) (fun i => ?_) (fun i k' c' h1 h2 => he (i + 1) k' c' (by simpa using h1) (by simpa using h2))]
    have := hv (i + 1)
    rw [List.getD_cons_succ] at this
    rw [← this]
    congr 1
    omega
theorem Row.form_zero {ty : Ty} (h : Row P t ty) : isFormT ty (zeroT ty) = true ∧ etaT ty (zeroT ty) = zeroT ty := by
  obtain ⟨i, z, _, _, _, _, hz, _, h3⟩ := h.info
  have ho := fun ha => h.one ha
  obtain ⟨size, agg, bytes, kinds, d, eq⟩ := ty
  cases agg with
  | true =>
    refine ⟨isFormL_zeroK hz, ?_⟩
    show V.agg (etaL kinds 0 (.agg (kinds.map zeroK))) = .agg (kinds.map zeroK)
    rw [etaL_self (cs := kinds.map zeroK) (by simp) (fun i => by simp [V.cell, V.cells])]
    intro i k c h1 h2
    rw [List.getElem?_map, h1] at h2
    simp at h2
    subst h2
    have hlen := isZeroL_len hz
    have : ∀ (ks : List Kd) (l : List Value) (i : Nat) (k : Kd), isZeroL ks l = true → ks[i]? = some k → ∃ x, isZero k x = true := by
      intro ks
      induction ks with
      | nil => intro l i k _ h; simp at h
      | cons a ks ih =>
        intro l i k hl hk
        cases l with
        | nil => simp [isZeroL] at hl
        | cons x l =>
          rw [isZeroL, Bool.and_eq_true] at hl
          cases i with
          | zero => simp at hk; subst hk; exact ⟨x, hl.1⟩
          | succ i => exact ih l i k hl.2 (by simpa using hk)
    obtain ⟨x, hx⟩ := this kinds _ i k hz h1
    exact (isForm_zeroK hx).2
  | false =>
    obtain ⟨_, k, hk⟩ := ho rfl
    simp only at hk
    subst hk
    rw [h3 rfl] at hz
    rw [show (#[z] : Array Value).toList = [z] from rfl, isZeroL, Bool.and_eq_true] at hz
    exact isForm_zeroK hz.1
theorem mkVal_rep {ty : Ty} (h : Row P t ty) {v : V} {R : V → Value → Prop} {cs : List Value} (hf : isFormT ty v = true) (hl : cs.length = ty.size) (hr : Rep T w O v R (mkVal ty.agg cs)) : RepL T w O v.cells R cs := by
  have ho := fun ha => h.one ha
  obtain ⟨size, agg, bytes, kinds, d, eq⟩ := ty
  cases agg with
  | true =>
    cases v <;> simp [isFormT] at hf
    obtain ⟨a, ha, h1⟩ := hr
    simp only [mkVal, Value.agg.injEq] at ha
    subst ha
    exact h1
  | false =>
    obtain ⟨h1, k, hk⟩ := ho rfl
    simp only at h1 hk hl
    subst hk
    rw [h1] at hl
    match cs, hl with
    | [c], _ =>
      have hv : v.cells = [v] := by
        cases v <;> first | rfl | (cases k <;> simp [isFormT, isForm] at hf)
      rw [hv]
      exact ⟨c, [], rfl, hr, rfl⟩
theorem rep_mkVal {ty : Ty} (h : Row P t ty) {v : V} {R : V → Value → Prop} {cs : List Value} (hf : isFormT ty v = true) (hr : RepL T w O v.cells R cs) : Rep T w O v R (mkVal ty.agg cs) ∧ cs.length = ty.size := by
  have ho := fun ha => h.one ha
  have hlen := h.len
  have hL := hr.length
  obtain ⟨size, agg, bytes, kinds, d, eq⟩ := ty
  cases agg with
  | true =>
    cases v <;> simp [isFormT] at hf
    rename_i l
    refine ⟨⟨cs.toArray, rfl, hr⟩, ?_⟩
    have : ∀ (ks : List Kd) (l : List V), isFormL ks l = true → l.length = ks.length := by
      intro ks
      induction ks with
      | nil => intro l h; cases l <;> simp [isFormL] at h ⊢
      | cons k ks ih => intro l h; cases l <;> simp [isFormL] at h ⊢; exact ih _ h.2
    simp only [V.cells] at hL
    rw [hL, this kinds l hf]
    exact hlen
  | false =>
    obtain ⟨h1, k, hk⟩ := ho rfl
    simp only at h1 hk
    subst hk
    have hv : v.cells = [v] := by
      cases v <;> first | rfl | (cases k <;> simp [isFormT, isForm] at hf)
    rw [hv] at hr
    obtain ⟨c, r, rfl, h2, h3⟩ := hr
    rw [show r = [] from h3]
    exact ⟨h2, by simp [h1]⟩
theorem RepSeq.get : ∀ {vs : List V} {t b o k : Nat} {v : V}, RepSeq T w O vs t b o → vs[k]? = some v →
    isFormT (T t) v = true ∧ etaT (T t) v = v ∧ ∃ cs : List Value, cs.length = (T t).size ∧ Lies w b (o + k * (T t).size) cs ∧ Rep T w O v noR (mkVal (T t).agg cs)
  | [], _, _, _, _, _, _, h => by simp at h
  | u :: vs, t, b, o, 0, v, h, hv => by
    simp at hv
    subst hv
    obtain ⟨⟨h1, h2⟩, ⟨cs, h3, h4, h5⟩, _⟩ := h
    exact ⟨h1, h2, cs, h3, by simpa using h4, h5⟩
  | u :: vs, t, b, o, k + 1, v, h, hv => by
    obtain ⟨_, _, h6⟩ := h
    obtain ⟨h1, h2, cs, h3, h4, h5⟩ := RepSeq.get h6 (by simpa using hv)
    exact ⟨h1, h2, cs, h3, by rw [Nat.succ_mul]; rw [show o + (k * (T t).size + (T t).size) = o + (T t).size + k * (T t).size from by omega]; exact h4, h5⟩
end
end Go.AH
