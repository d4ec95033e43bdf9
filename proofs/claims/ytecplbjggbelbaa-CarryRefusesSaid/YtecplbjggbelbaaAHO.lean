/- The operations that make nothing and write nothing. -/
import Derived.Test.YtecplbjggbelbaaAHS
namespace Go.AH
open Go Go.RowKit

def SRep (T : TypeId → Ty) (w : World) (O : Nat → Prop) (R : V → Value → Prop) (s : Nat → V) (a : Act) : Prop := ∀ t, Rep T w O (s t) R (a.tmps.getD t undef)

section
variable {T : TypeId → Ty} {w : World} {O : Nat → Prop} {R : V → Value → Prop}
theorem Rep.ofConst (x : Value) : Rep T w O (ofConst x) R x := by
  have one : ∀ x : Value, Rep T w O (ofConst.one x) R x := by
    intro x
    cases x with
    | bool b => rfl
    | int k n => rfl
    | string s => exact ⟨s, rfl, rfl⟩
    | slice a n c =>
      cases a with
      | some a => exact trivial
      | none =>
        cases n with
        | zero => cases c with
          | zero => exact ⟨none, 0, rfl, Nat.le_refl _, .inl rfl⟩
          | succ c => exact trivial
        | succ n => exact trivial
    | pointer a => cases a <;> first | rfl | exact trivial
    | map a => cases a <;> first | rfl | exact trivial
    | nilFunc => rfl
    | nilIface => rfl
    | _ => exact trivial
  cases x with
  | bool b => rfl
  | int k n => rfl
  | string s => exact ⟨s, rfl, rfl⟩
  | slice a n c =>
    cases a with
    | some a => exact trivial
    | none =>
      cases n with
      | zero => cases c with
        | zero => exact ⟨none, 0, rfl, Nat.le_refl _, .inl rfl⟩
        | succ c => exact trivial
      | succ n => exact trivial
  | pointer a => cases a <;> first | rfl | exact trivial
  | map a => cases a <;> first | rfl | exact trivial
  | nilFunc => rfl
  | nilIface => rfl
  | agg cs =>
    refine ⟨cs, rfl, RepL.of_all (by simp) (fun n v x h1 h2 => ?_)⟩
    simp only [List.getElem?_map, h2, Option.map_some, Option.some.injEq] at h1
    rw [← h1]
    exact one x
  | _ => exact trivial

structure EvOk (E : Env) (P : Program) : Prop where
  ty : TyOk P E.ty
theorem SRep.ev {E : Env} {s : Nat → V} {a : Act} (hs : SRep T w O R s a) (hg : ∀ g, Rep T w O (E.glob g) noR (.pointer (some ⟨g, 0, none⟩))) (x : Operand) : Rep T w O (ev E s x) R (a.eval x) := by
  cases x with
  | tmp t => exact hs t
  | const v => exact Rep.ofConst v
  | func f => exact ⟨#[], #[], rfl, rfl, rfl⟩
  | global g => exact Rep.refs _ _ _ _ (fun _ _ _ h => h.elim) (hg g)

theorem Rep.cells {v : V} {x : Value} (h : Rep T w O v R x) (hv : isAggV v = true ∨ v.storable = true) (hR : ∀ r y, R r y → y.oneCell' = true) : RepL T w O v.cells R x.cells.toList := by
  cases v with
  | agg cs => obtain ⟨a, rfl, h⟩ := h; exact h
  | top => rcases hv with h | h <;> cases h
  | tup vs => rcases hv with h | h <;> cases h
  | _ =>
    have h1 := Rep.one h (by rfl) hR
    have : x.cells = #[x] := by cases x <;> first | rfl | (simp [Value.oneCell'] at h1)
    rw [this]
    exact ⟨x, [], rfl, h, rfl⟩
theorem Rep.int_inv {k : IntKind} {n : Int} {x : Value} (h : Rep T w O (.int k n) R x) : x = .int k n := h
theorem RefRep.one {h : Nat → Ob} {β : Nat → Loc} (hg : ∀ i, (h i).alive = true) : True := trivial

/- Numbers. -/
theorem kk (k : IntKind) : ¬ (k ≠ k) := fun h => h rfl
theorem run_binInt {P : Program} {op : BinOp} {k : IntKind} {x y : Int} {v : V} (t : TypeId) (h1 : op ≠ .shl) (h2 : op ≠ .shr) (he : (binInt op k x y).eval = some v) :
    ∃ z, (binOp op t (.int k x) (.int k y)).run P w = .ok z w ∧ ∀ R, Rep T w O v R z := by
  cases op
  case shl => exact absurd rfl h1
  case shr => exact absurd rfl h2
  case quo =>
    by_cases h : y = 0
    · simp [binInt, Tr.eval, Tr.test, h] at he
    · have hd : decide (y ≠ 0) = true := by simpa using h
      simp only [binInt, Tr.test, hd, Tr.eval, Option.some.injEq] at he
      subst he
      refine ⟨_, ?_, fun _ => rfl⟩
      show Sem.run P (if k ≠ k then _ else Op.intDiv .quo k x y) w = _
      rw [if_neg (kk k)]
      show Sem.run P (if y = 0 then _ else _) w = _
      rw [if_neg h]
      rfl
  case rem =>
    by_cases h : y = 0
    · simp [binInt, Tr.eval, Tr.test, h] at he
    · have hd : decide (y ≠ 0) = true := by simpa using h
      simp only [binInt, Tr.test, hd, Tr.eval, Option.some.injEq] at he
      subst he
      refine ⟨_, ?_, fun _ => rfl⟩
      show Sem.run P (if k ≠ k then _ else Op.intDiv .rem k x y) w = _
      rw [if_neg (kk k)]
      show Sem.run P (if y = 0 then _ else _) w = _
      rw [if_neg h]
      rfl
  all_goals
    have he' := Option.some.inj (show some _ = some v from he)
    subst he'
    refine ⟨_, ?_, fun _ => rfl⟩
    show Sem.run P (if k ≠ k then _ else _) w = _
    rw [if_neg (kk k)]
    rfl

theorem repBool {b : Bool} : Rep T w O (.bool b) R (.bool b) := rfl
theorem toList_data (s : ByteArray) : s.toList = s.data.toList := by rw [ByteArray.toList_eq]
theorem run_binStr {P : Program} {op : BinOp} {x y : List UInt8} {a b : ByteArray} {v : V} (t ty : TypeId) (E : Ty) (ha : a.data.toList = x) (hb : b.data.toList = y) (he : (binV E op (.str x) (.str y)).eval = some v) :
    ∃ z, (binOp op t (.string a) (.string b)).run P w = .ok z w ∧ ∀ R, Rep T w O v R z := by
  have hx : a.toList = x := by rw [toList_data, ha]
  have hy : b.toList = y := by rw [toList_data, hb]
  have hs : a.size = x.length := by rw [← ha]; rfl
  have hs2 : b.size = y.length := by rw [← hb]; rfl
  cases op <;> first | (simp [binV, Tr.eval] at he; done) | skip
  case add =>
    by_cases h : x.length + y.length ≤ lim
    · have hd : decide (x.length + y.length ≤ lim) = true := by simpa using h
      have he' := Option.some.inj (show some _ = some v from by simpa [binV, Tr.test, Tr.eval, hd] using he)
      subst he'
      refine ⟨.string (a ++ b), ?_, fun _ => ⟨a ++ b, rfl, by rw [← ha, ← hb]; simp⟩⟩
      show Sem.run P (if ((a.size + b.size : Nat) : Int) > IntKind.i64.max then _ else _) w = _
      rw [if_neg (by
        have : IntKind.i64.max = 9223372036854775807 := by decide
        unfold lim at h
        omega)]
      rfl
    · simp [binV, Tr.test, Tr.eval, h] at he
  all_goals
    have he' := Option.some.inj (show some _ = some v from he)
    subst he'
    refine ⟨_, rfl, fun _ => ?_⟩
    simp only [Rep, hx, hy]

/- Equality. -/
theorem run_eqV_basic {P : Program} {d : Nat} {t : TypeId} {k : Kd} {a b : V} {x y : Value} {r : Bool} {R R' : V → Value → Prop} (hb : basicB P t = some k) (fa : isForm k a = true) (fb : isForm k b = true) (ha : Rep T w O a R x) (hb' : Rep T w O b R' y) (he : eqV a b = some r) :
    (Op.equalIn (d + 1) t x y).run P w = .ok r w := by
  unfold basicB at hb
  split at hb <;> simp at hb
  all_goals rename_i hu
  all_goals subst hb
  · cases a <;> simp [isForm] at fa
    cases b <;> simp [isForm] at fb
    rw [show x = _ from ha, show y = _ from hb']
    simp [eqV] at he
    subst he
    exact run_equalIn_bool w d t _ _ hu
  · cases a <;> simp [isForm] at fa
    cases b <;> simp [isForm] at fb
    subst fa fb
    rw [show x = _ from ha, show y = _ from hb']
    simp [eqV] at he
    subst he
    exact run_equalIn_int w d t _ _ _ _ hu
  · cases a <;> simp [isForm] at fa
    cases b <;> simp [isForm] at fb
    obtain ⟨p, rfl, hp⟩ := ha
    obtain ⟨q, rfl, hq⟩ := hb'
    simp [eqV] at he
    subst he
    rw [run_equalIn_string w d t _ _ hu, toList_data, toList_data, hp, hq]
theorem run_eqFields {P : Program} {d : Nat} {xs ys : Array Value} {R R' : V → Value → Prop} : ∀ (fs : List Field) (off : Nat) (ks : List Kd) (va vb : List V) (la lb : List Value) (r : Bool),
    basics P off fs = some ks → isFormL ks va = true → isFormL ks vb = true → RepL T w O va R la → RepL T w O vb R' lb → xs.toList.drop off = la → ys.toList.drop off = lb → eqCells va vb = some r →
    (Op.eqFields (d + 1) xs ys fs).run P w = .ok r w
  | [], off, ks, va, vb, la, lb, r, hb, fa, fb, ra, rb, hx, hy, he => by
    simp [basics] at hb
    subst hb
    cases va with
    | nil => cases vb with
      | nil => simp [eqCells] at he; subst he; rfl
      | cons => simp [isFormL] at fb
    | cons => simp [isFormL] at fa
  | f :: fs, off, ks, va, vb, la, lb, r, hb, fa, fb, ra, rb, hx, hy, he => by
    unfold basics at hb
    split at hb
    · rename_i k hk
      split at hb
      · rename_i hn
        cases hq : basics P (off + 1) fs with
        | none => rw [hq] at hb; cases hb
        | some ks' =>
          rw [hq] at hb
          simp at hb
          subst hb
          match va, vb, fa, fb, ra, rb, he with
          | a :: va, b :: vb, fa, fb, ra, rb, he =>
            rw [isFormL, Bool.and_eq_true] at fa fb
            obtain ⟨x, la', rfl, h1, h2⟩ := ra
            obtain ⟨y, lb', rfl, h3, h4⟩ := rb
            have hxo : xs[off]? = some x := by
              have : (xs.toList.drop off)[0]? = some x := by rw [hx]; rfl
              simpa using this
            have hyo : ys[off]? = some y := by
              have : (ys.toList.drop off)[0]? = some y := by rw [hy]; rfl
              simpa using this
            have hagg : (isAgg f.type).run P w = .ok false w := by
              unfold basicB at hk
              split at hk <;> simp at hk
              all_goals (rename_i hu; simp [isAgg, run_underlying hu])
            cases hv : eqV a b with
            | none => simp [eqCells, hv] at he
            | some r1 =>
              cases hr : eqCells va vb with
              | none => simp [eqCells, hv, hr] at he
              | some r2 =>
                simp [eqCells, hv, hr] at he
                subst he
                have h5 := run_eqV_basic (P := P) (d := d) hk fa.1 fb.1 h1 h3 hv
                have ih := run_eqFields (d := d) (xs := xs) (ys := ys) fs (off + 1) ks' va vb la' lb' r2 hq fa.2 fb.2 h2 h4 (by rw [← List.drop_drop, hx]; rfl) (by rw [← List.drop_drop, hy]; rfl) hr
                obtain ⟨hn1, hn2⟩ := hn
                simp only [Op.eqFields, hn1, ne_eq, not_false_eq_true, if_true]
                have hp1 : (part f.type xs f.offset).run P w = .ok x w := by rw [hn2]; simp [part, hagg, hxo]
                have hp2 : (part f.type ys f.offset).run P w = .ok y w := by rw [hn2]; simp [part, hagg, hyo]
                simp only [Sem.run_bind, hp1, hp2, h5, Result.andThen_ok]
                cases r1
                · rfl
                · simpa using ih
          | [], _, fa, _, _, _, _ => simp [isFormL] at fa
          | _ :: _, [], _, fb, _, _, _ => simp [isFormL] at fb
      · cases hb
    · cases hb
def notNum : Value → Bool | .int .. => false | .float .. => false | .complex .. => false | .string _ => false | _ => true
theorem binOp_eql {t : TypeId} {x y : Value} (h : notNum x = true) : binOp .eql t x y = (do pure (.bool (← Op.equal t x y))) ∧ binOp .neq t x y = (do pure (.bool (!(← Op.equal t x y)))) := by
  cases x <;> first | exact ⟨rfl, rfl⟩ | cases h
theorem run_eqIn_func {P : Program} (d : Nat) {t : TypeId} {a1 a2 : Array TypeId} {a3 : Bool} (hu : P.underlying t = some (.func a1 a2 a3)) (f : Fn) (p q : Array Value) :
    (Op.equalIn (d + 1) t .nilFunc .nilFunc).run P w = .ok true w ∧ (Op.equalIn (d + 1) t .nilFunc (.func f p q)).run P w = .ok false w ∧ (Op.equalIn (d + 1) t (.func f p q) .nilFunc).run P w = .ok false w := by
  refine ⟨?_, ?_, ?_⟩ <;> simp [Op.equalIn, run_underlying hu]
theorem run_eqIn_ptr {P : Program} (d : Nat) {t e : TypeId} (hu : P.underlying t = some (.pointer e)) (p : Option Addr) :
    (Op.equalIn (d + 1) t (.pointer none) (.pointer p)).run P w = .ok p.isNone w ∧ (Op.equalIn (d + 1) t (.pointer p) (.pointer none)).run P w = .ok p.isNone w := by
  refine ⟨?_, ?_⟩
  · simp [Op.equalIn, run_underlying hu]
  · cases p <;> simp [Op.equalIn, run_underlying hu]
theorem run_eqT {P : Program} {t : TypeId} {ty : Ty} {a b : V} {x y : Value} {r : Bool} {R : V → Value → Prop} (row : Row P t ty) (ha : Rep T w O a R x) (hb : Rep T w O b R y) (he : eqT ty a b = some r)
    (hp : ∀ i j z, R (.box i j) z → ∃ p, z = .pointer (some p)) (hp2 : ∀ i g k j z, R (.elt i g k j) z → ∃ p, z = .pointer (some p)) :
    (Op.equal t x y).run P w = .ok r w ∧ (∀ op ox oy, (eqGuard op t ox oy x y).run P w = .ok () w) ∧ notNum x = true := by
  have ptr : ∀ {e : TypeId} (p q : Option Addr) (b : Bool), P.underlying t = some (.pointer e) → (p = none ∧ b = q.isNone ∨ q = none ∧ b = p.isNone) → x = .pointer p → y = .pointer q →
      (Op.equal t x y).run P w = .ok b w ∧ (∀ op ox oy, (eqGuard op t ox oy x y).run P w = .ok () w) ∧ notNum x = true := by
    intro e p q b hu hpq hx hy
    subst hx hy
    refine ⟨?_, fun op ox oy => by cases op <;> rfl, rfl⟩
    rcases hpq with ⟨rfl, rfl⟩ | ⟨rfl, rfl⟩
    · exact (run_eqIn_ptr 9999 hu q).1
    · exact (run_eqIn_ptr 9999 hu p).2
  unfold eqT at he
  split at he
  · rename_i xs ys
    split at he
    · rename_i gs hd
      split at he
      · rename_i hf
        simp only [Bool.and_eq_true] at hf
        obtain ⟨fs, hu, _, _, _, hq⟩ := row.struct hd
        obtain ⟨hq1, hq2, hq3⟩ := hq hf.1.1
        obtain ⟨p, rfl, h1⟩ := ha
        obtain ⟨q, rfl, h2⟩ := hb
        have hfo : P.fieldsOf t = fs := by simp [Program.fieldsOf, hu]
        refine ⟨?_, fun op ox oy => run_eqGuard_agg w op t ox oy p q hq3, rfl⟩
        rw [Op.equal, Op.maxDepth, run_equalIn_struct w 9999 t p q (by rw [hfo]; exact hu) hq2, hfo]
        exact run_eqFields (d := 9998) fs.toList 0 ty.kinds xs ys p.toList q.toList r hq1 hf.1.2 hf.2 h1 h2 rfl rfl he
      · cases he
    · cases he
  · rename_i u v
    split at he
    · rename_i hd
      obtain ⟨hu, _⟩ := row.bool hd
      rw [show x = _ from ha, show y = _ from hb]
      simp at he
      subst he
      exact ⟨run_equal_bool w t u v hu, fun op ox oy => by cases op <;> rfl, rfl⟩
    · cases he
  · split at he
    · rename_i e hd
      have hu := row.ptr hd
      unfold eqP at he
      split at he <;> simp at he <;> subst he
      · exact ptr none none _ hu (.inl ⟨rfl, rfl⟩) ha hb
      · obtain ⟨p, o, l, hy, _⟩ := hb; exact ptr none _ _ hu (.inl ⟨rfl, rfl⟩) ha hy
      · obtain ⟨p, hy⟩ := hp _ _ _ hb; exact ptr none _ _ hu (.inl ⟨rfl, rfl⟩) ha hy
      · obtain ⟨p, hy⟩ := hp2 _ _ _ _ _ hb; exact ptr none _ _ hu (.inl ⟨rfl, rfl⟩) ha hy
      · obtain ⟨p, o, l, hx, _⟩ := ha; exact ptr _ none _ hu (.inr ⟨rfl, rfl⟩) hx hb
      · obtain ⟨p, hx⟩ := hp _ _ _ ha; exact ptr _ none _ hu (.inr ⟨rfl, rfl⟩) hx hb
      · obtain ⟨p, hx⟩ := hp2 _ _ _ _ _ ha; exact ptr _ none _ hu (.inr ⟨rfl, rfl⟩) hx hb
    · rename_i hd
      obtain ⟨a1, a2, a3, hu⟩ := row.func hd
      unfold eqF at he
      split at he <;> simp at he <;> subst he
      · rw [show x = _ from ha, show y = _ from hb]
        exact ⟨(run_eqIn_func 9999 hu (.func 0) #[] #[]).1, fun op ox oy => by cases op <;> rfl, rfl⟩
      · rw [show x = _ from ha]
        obtain ⟨p', q', rfl, _⟩ := hb
        exact ⟨(run_eqIn_func 9999 hu _ _ _).2.1, fun op ox oy => by cases op <;> rfl, rfl⟩
      · rw [show y = _ from hb]
        obtain ⟨p', q', rfl, _⟩ := ha
        exact ⟨(run_eqIn_func 9999 hu _ _ _).2.2, fun op ox oy => by cases op <;> rfl, rfl⟩
    · cases he
end
end Go.AH
