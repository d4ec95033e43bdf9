/- Maps. -/
import Derived.Test.YtecplbjggbelbaaAHX
namespace Go.AH
open Go Go.RowKit

def findRes (f : Value → Bool) : List MapEntry → Nat → Option (Nat × Value)
  | [], _ => none
  | e :: es, i => if f e.key then some (i, e.val) else findRes f es (i + 1)
theorem findNow_eq {d : TypeDesc} {x : Value} {f : Value → Bool} : ∀ (es : List MapEntry) (i : Nat), (∀ e ∈ es, Instr.sameNow d x e.key = some (f e.key)) → Instr.findNow d x es i = some (findRes f es i)
  | [], i, _ => rfl
  | e :: es, i, h => by
    unfold Instr.findNow findRes
    rw [h e (by simp)]
    cases f e.key
    · exact findNow_eq es (i + 1) (fun e' h' => h e' (by simp [h']))
    · rfl
section
variable {P : Program} {w : World} {T : TypeId → Ty} {O : Nat → Prop} {R R' : V → Value → Prop}
theorem run_findAsking {kt : TypeId} {x : Value} {f : Value → Bool} : ∀ (es : List MapEntry) (i : Nat), (∀ e ∈ es, (Op.equal kt x e.key).run P w = .ok (f e.key) w) → (Instr.findAsking kt x es i).run P w = .ok (findRes f es i) w
  | [], i, _ => rfl
  | e :: es, i, h => by
    unfold Instr.findAsking findRes
    simp only [Sem.run_bind, h e (by simp), Result.andThen_ok]
    cases f e.key
    · simpa using run_findAsking es (i + 1) (fun e' h' => h e' (by simp [h']))
    · rfl

/-- The forms of a key: a basic value, or a struct of such. -/
theorem key_cases {kt : TypeId} {ty : Ty} (row : Row P kt ty) (hk : plainKey ty = true) (hok : ty.ok = true) :
    (∃ k, basicB P kt = some k ∧ ty.kinds = [k] ∧ ty.agg = false) ∨ (∃ fs, P.underlying kt = some (.struct fs) ∧ ty.agg = true ∧ basics P 0 fs.toList = some ty.kinds ∧ P.stoodInHeld kt = false) := by
  unfold plainKey at hk
  rw [Bool.and_eq_true] at hk
  cases ha : ty.agg with
  | true =>
    simp only [ha] at hk
    right
    cases hd : ty.d with
    | struct gs =>
      obtain ⟨fs, hu, _, _, _, hq⟩ := row.struct hd
      obtain ⟨h1, h2, _⟩ := hq hk.2
      exact ⟨fs, hu, rfl, h1, h2⟩
    | array n e =>
      have := row.desc
      unfold descB at this
      split at this <;> rename_i hu hq <;> rw [hd] at hq <;> simp at hq
      · simp [hk.2] at this
      · cases this
    | slice e => rw [(row.slice hd).2] at ha; cases ha
    | str => rw [(row.str hd).2.1] at ha; cases ha
    | int k => rw [(row.int hd).2.1] at ha; cases ha
    | bool => rw [(row.bool hd).2.1] at ha; cases ha
    | other => unfold Ty.ok at hok; rw [hd] at hok; cases hok
    | _ =>
      have := row.desc
      unfold descB at this
      split at this <;> rename_i hu hq <;> rw [hd] at hq <;> simp at hq <;> simp [ha] at this
  | false =>
    left
    obtain ⟨_, k, hkk⟩ := row.one ha
    simp only [ha] at hk
    have hk2 := hk.2
    cases hd : ty.d with
    | str => obtain ⟨h1, _, h3⟩ := row.str hd; rw [hkk] at h3; exact ⟨k, by simp [basicB, h1]; simpa using h3.symm, hkk, rfl⟩
    | int k' => obtain ⟨h1, _, h3⟩ := row.int hd; rw [hkk] at h3; exact ⟨k, by simp [basicB, h1]; simpa using h3.symm, hkk, rfl⟩
    | bool => obtain ⟨h1, _, h3⟩ := row.bool hd; rw [hkk] at h3; exact ⟨k, by simp [basicB, h1]; simpa using h3.symm, hkk, rfl⟩
    | _ => rw [hd] at hk2; cases hk2

theorem eta_plain {k : Kd} {v : V} (hp : k.plain = true) (hf : isForm k v = true) : eta k v = v := by
  cases k <;> simp [Kd.plain] at hp <;> cases v <;> simp [isForm] at hf <;> first | rfl | (subst hf; rfl)
theorem etaL_plain : ∀ {ks : List Kd} {cs : List V}, ks.all Kd.plain = true → isFormL ks cs = true → etaL ks 0 (.agg cs) = cs := by
  intro ks cs hp hf
  have hlen : cs.length = ks.length := by
    have : ∀ (ks : List Kd) (l : List V), isFormL ks l = true → l.length = ks.length := by
      intro ks
      induction ks with
      | nil => intro l h; cases l <;> simp [isFormL] at h ⊢
      | cons k ks ih => intro l h; cases l <;> simp [isFormL] at h ⊢; exact ih _ h.2
    exact this ks cs hf
  refine etaL_self hlen (fun i => by simp [V.cell, V.cells]) (fun i k c h1 h2 => ?_)
  have hpk : k.plain = true := by
    rw [List.all_eq_true] at hp
    exact hp k (List.mem_of_getElem? h1)
  have hfc : ∀ (ks : List Kd) (cs : List V) (i : Nat) (k : Kd) (c : V), isFormL ks cs = true → ks[i]? = some k → cs[i]? = some c → isForm k c = true := by
    intro ks
    induction ks with
    | nil => intro cs i k c _ h; simp at h
    | cons a ks ih =>
      intro cs i k c hf h1 h2
      cases cs with
      | nil => simp at h2
      | cons b cs =>
        rw [isFormL, Bool.and_eq_true] at hf
        cases i with
        | zero => simp at h1 h2; subst h1 h2; exact hf.1
        | succ i => exact ih cs i k c hf.2 (by simpa using h1) (by simpa using h2)
  exact eta_plain hpk (hfc ks cs i k c hf h1 h2)
theorem eqV_some {k : Kd} {a b : V} (hp : k.plain = true) (fa : isForm k a = true) (fb : isForm k b = true) : ∃ r, eqV a b = some r := by
  cases k <;> simp [Kd.plain] at hp <;> cases a <;> simp [isForm] at fa <;> cases b <;> simp [isForm] at fb
  · exact ⟨_, rfl⟩
  · subst fa fb; rename_i n m; exact ⟨n == m, by simp [eqV]⟩
  · exact ⟨_, rfl⟩
theorem eqCells_some : ∀ {ks : List Kd} {a b : List V}, ks.all Kd.plain = true → isFormL ks a = true → isFormL ks b = true → ∃ r, eqCells a b = some r
  | [], [], [], _, _, _ => ⟨_, rfl⟩
  | [], _ :: _, _, _, h, _ => by simp [isFormL] at h
  | [], [], _ :: _, _, _, h => by simp [isFormL] at h
  | _ :: _, [], _, _, h, _ => by simp [isFormL] at h
  | _ :: _, _ :: _, [], _, _, h => by simp [isFormL] at h
  | k :: ks, x :: a, y :: b, hp, fa, fb => by
    rw [isFormL, Bool.and_eq_true] at fa fb
    rw [List.all_cons, Bool.and_eq_true] at hp
    obtain ⟨r1, h1⟩ := eqV_some hp.1 fa.1 fb.1
    obtain ⟨r2, h2⟩ := eqCells_some hp.2 fa.2 fb.2
    exact ⟨r1 && r2, by simp [eqCells, h1, h2]⟩
/-- What is asked of two keys. -/
theorem run_keySame {kt : TypeId} {ty : Ty} (row : Row P kt ty) (hk : plainKey ty = true) (hok : ty.ok = true) {a b : V} {x y : Value} (fa : isFormT ty a = true) (fb : isFormT ty b = true) (ha : Rep T w O a R x) (hb : Rep T w O b R' y) :
    (Op.equal kt x y).run P w = .ok (keySame ty a b) w := by
  have hpl : ty.kinds.all Kd.plain = true := by unfold plainKey at hk; rw [Bool.and_eq_true] at hk; exact hk.1
  rcases key_cases row hk hok with ⟨k, h1, h2, h3⟩ | ⟨fs, h1, h2, h3, h4⟩
  · simp only [isFormT, h2, h3] at fa fb
    rw [h2] at hpl
    have hp : k.plain = true := by simpa using hpl
    obtain ⟨r, hr⟩ := eqV_some hp fa fb
    have : keySame ty a b = r := by simp [keySame, h2, h3, eta_plain hp fa, eta_plain hp fb, hr]
    rw [this]
    exact run_eqV_basic (P := P) (d := 9999) h1 fa fb ha hb hr
  · cases a <;> simp [isFormT, h2] at fa
    cases b <;> simp [isFormT, h2] at fb
    rename_i ca cb
    obtain ⟨p, rfl, h5⟩ := ha
    obtain ⟨q, rfl, h6⟩ := hb
    obtain ⟨r, hr⟩ := eqCells_some hpl fa fb
    have : keySame ty (.agg ca) (.agg cb) = r := by simp [keySame, h2, etaL_plain hpl fa, etaL_plain hpl fb, hr]
    rw [this]
    have hfo : P.fieldsOf kt = fs := by simp [Program.fieldsOf, h1]
    rw [Op.equal, Op.maxDepth, run_equalIn_struct w 9999 kt p q (by rw [hfo]; exact h1) h4, hfo]
    exact run_eqFields (d := 9998) fs.toList 0 ty.kinds ca cb p.toList q.toList r h3 fa fb h5 h6 rfl rfl hr

theorem run_checkKey_basic {kt : TypeId} {k : Kd} {x : Value} (h : basicB P kt = some k) (e : Bool) (n : Nat) : (Instr.checkKey e (n + 1) kt x).run P w = .ok () w := by
  unfold basicB at h
  split at h <;> simp at h
  all_goals (rename_i hu; simp [Instr.checkKey, run_underlying hu])
theorem run_checkKey_fields {e : Bool} {n : Nat} {cs : Array Value} : ∀ (fs : List Field) (off : Nat) (ks : List Kd), basics P off fs = some ks → off + ks.length ≤ cs.size →
    (forIn fs PUnit.unit (fun f (_ : PUnit) => (if f.name ≠ "_" then do
        Instr.checkKey e (n + 1) f.type (← part f.type cs f.offset)
        pure (ForInStep.yield PUnit.unit) else pure (ForInStep.yield PUnit.unit) : Sem (ForInStep PUnit)))).run P w = .ok PUnit.unit w
  | [], _, _, _, _ => rfl
  | f :: fs, off, ks, hb, hl => by
    unfold basics at hb
    split at hb
    · rename_i k hk
      split at hb
      · rename_i hn
        cases hq : basics P (off + 1) fs with
        | none => rw [hq] at hb; cases hb
        | some ks' =>
          rw [hq] at hb
          simp at hb
          subst hb
          simp at hl
          have ih := run_checkKey_fields (e := e) (n := n) (cs := cs) fs (off + 1) ks' hq (by omega)
          have hagg : (isAgg f.type).run P w = .ok false w := by
            unfold basicB at hk
            split at hk <;> simp at hk
            all_goals (rename_i hu; simp [isAgg, run_underlying hu])
          have hxo : cs[off]? = some cs[off] := Array.getElem?_eq_getElem (by omega)
          have hp1 : (part f.type cs f.offset).run P w = .ok cs[off] w := by rw [hn.2]; simp [part, hagg, hxo]
          simp only [List.forIn_cons, Sem.run_bind]
          rw [if_pos hn.1]
          simp only [Sem.run_bind, hp1, Result.andThen_ok, run_checkKey_basic hk, Sem.run_pure]
          exact ih
      · cases hb
    · cases hb
theorem run_checkKey {kt : TypeId} {ty : Ty} (row : Row P kt ty) (hk : plainKey ty = true) (hok : ty.ok = true) {a : V} {x : Value} (fa : isFormT ty a = true) (ha : Rep T w O a R x) (e : Bool) :
    (Instr.checkKey e 10000 kt x).run P w = .ok () w := by
  rcases key_cases row hk hok with ⟨k, h1, h2, h3⟩ | ⟨fs, h1, h2, h3, h4⟩
  · exact run_checkKey_basic h1 e 9999
  · cases a <;> simp [isFormT, h2] at fa
    rename_i ca
    obtain ⟨p, rfl, h5⟩ := ha
    have hl := h5.length
    have hlen : ca.length = ty.kinds.length := by
      have : ∀ (ks : List Kd) (l : List V), isFormL ks l = true → l.length = ks.length := by
        intro ks
        induction ks with
        | nil => intro l h; cases l <;> simp [isFormL] at h ⊢
        | cons k ks ih => intro l h; cases l <;> simp [isFormL] at h ⊢; exact ih _ h.2
      exact this _ _ fa
    have := run_checkKey_fields (w := w) (e := e) (n := 9998) (cs := p) fs.toList 0 ty.kinds h3 (by simp at hl; omega)
    show (Instr.checkKey e (9999 + 1) kt (.agg p)).run P w = _
    unfold Instr.checkKey
    simp only [Sem.run_bind, run_underlying h1, Result.andThen_ok]
    rw [← Array.forIn_toList, this]
    rfl

theorem beq_bytes (a b : ByteArray) : (a == b) = (a.data.toList == b.data.toList) := by rw [beq_toListBytes, toList_data, toList_data]
/-- 'findKey' finds the first entry whose key is the same. -/
theorem run_findKey {kt : TypeId} {ty : Ty} (row : Row P kt ty) (hk : plainKey ty = true) (hok : ty.ok = true) {k : V} {x : Value} (fk : isFormT ty k = true) (hx : Rep T w O k R x)
    {es : List MapEntry} {ks : List V} (hks : RepL T w O ks R' (es.map (·.key))) (hf : ∀ k ∈ ks, isFormT ty k = true) :
    ∃ f : Value → Bool, (∀ (n : Nat) (k' : V) (e : MapEntry), ks[n]? = some k' → es[n]? = some e → f e.key = keySame ty k k') ∧ (Instr.findKey kt x es).run P w = .ok (findRes f es 0) w := by
  classical
  let f : Value → Bool := fun y => if h : ∃ b, (Op.equal kt x y).run P w = .ok b w then h.choose else false
  have hpos : ∀ (n : Nat) (e : MapEntry), es[n]? = some e → ∃ k', ks[n]? = some k' ∧ Rep T w O k' R' e.key := by
    intro n e he
    have hlen := hks.length
    simp at hlen
    obtain ⟨hn, _⟩ := List.getElem?_eq_some_iff.1 he
    have hk' : ks[n]? = some (ks[n]'(by omega)) := List.getElem?_eq_getElem (by omega)
    obtain ⟨y, h1, h2⟩ := RepL.get n _ hks hk'
    rw [List.getElem?_map, he] at h1
    simp at h1
    subst h1
    exact ⟨_, hk', h2⟩
  have hfe : ∀ (n : Nat) (k' : V) (e : MapEntry), ks[n]? = some k' → es[n]? = some e → (Op.equal kt x e.key).run P w = .ok (keySame ty k k') w ∧ f e.key = keySame ty k k' := by
    intro n k' e h1 h2
    obtain ⟨k2, h3, h4⟩ := hpos n e h2
    rw [h1] at h3
    simp at h3
    subst h3
    have hr := run_keySame row hk hok fk (hf _ (List.mem_of_getElem? h1)) hx h4
    refine ⟨hr, ?_⟩
    have hex : ∃ b, (Op.equal kt x e.key).run P w = .ok b w := ⟨_, hr⟩
    have hc := hex.choose_spec
    show (if h : _ then _ else _) = _
    rw [dif_pos hex]
    have h9 := hr.symm.trans hc
    simp only [Result.ok.injEq, and_true] at h9
    exact h9.symm
  refine ⟨f, fun n k' e h1 h2 => (hfe n k' e h1 h2).2, ?_⟩
  have hall : ∀ e ∈ es, (Op.equal kt x e.key).run P w = .ok (f e.key) w := by
    intro e he
    obtain ⟨n, hn⟩ := List.getElem?_of_mem he
    obtain ⟨k', h1, _⟩ := hpos n e hn
    obtain ⟨h2, h3⟩ := hfe n k' e h1 hn
    rw [h3]; exact h2
  unfold Instr.findKey
  rcases key_cases row hk hok with ⟨kd, h1, h2, h3⟩ | ⟨fs, h1, h2, h3, h4⟩
  · obtain ⟨d, hu⟩ : ∃ d, P.underlying kt = some d := by
      unfold basicB at h1
      split at h1 <;> first | exact ⟨_, ‹_›⟩ | cases h1
    have hnow : ∀ e ∈ es, Instr.sameNow d x e.key = some (f e.key) := by
      intro e he
      obtain ⟨n, hn⟩ := List.getElem?_of_mem he
      obtain ⟨k', h5, h6⟩ := hpos n e hn
      obtain ⟨_, h7⟩ := hfe n k' e h5 hn
      rw [h7]
      have fk' := hf _ (List.mem_of_getElem? h5)
      simp only [isFormT, h2, h3] at fk fk'
      unfold basicB at h1
      rw [hu] at h1
      split at h1 <;> simp at h1
      all_goals subst h1
      all_goals rename_i hd
      all_goals simp only [Option.some.injEq] at hd
      all_goals subst hd
      · cases k <;> simp [isForm] at fk
        cases k' <;> simp [isForm] at fk'
        rw [show x = _ from hx, show e.key = _ from h6]
        simp [Instr.sameNow, keySame, h2, h3, eta, V.toB, eqV]
      · cases k <;> simp [isForm] at fk
        cases k' <;> simp [isForm] at fk'
        subst fk fk'
        rw [show x = _ from hx, show e.key = _ from h6]
        simp [Instr.sameNow, keySame, h2, h3, eta, V.toI, eqV]
      · cases k <;> simp [isForm] at fk
        cases k' <;> simp [isForm] at fk'
        obtain ⟨b1, rfl, h8⟩ := hx
        obtain ⟨b2, h9, h10⟩ := h6
        rw [h9]
        simp [Instr.sameNow, keySame, h2, h3, eta, V.toS, eqV, beq_bytes, h8, h10]
    simp [run_underlying hu, findNow_eq es 0 hnow]
  · cases es with
    | nil => simp [run_underlying h1, Instr.findNow, findRes]
    | cons e es =>
      have : Instr.findNow (.struct fs) x (e :: es) 0 = none := by
        have hx2 : ∃ p, x = .agg p := by
          cases k <;> simp [isFormT, h2] at fk
          obtain ⟨p, rfl, _⟩ := hx
          exact ⟨p, rfl⟩
        obtain ⟨p, rfl⟩ := hx2
        rfl
      simp only [Sem.run_bind, run_underlying h1, Result.andThen_ok, this]
      exact run_findAsking _ 0 hall

/-- The entry that is found, seen from the tree. -/
theorem find_dict {ty : Ty} {k : V} {f : Value → Bool} : ∀ (es : List MapEntry) (ks vs : List V) (i : Nat),
    RepL T w O ks R' (es.map (·.key)) → RepL T w O vs R' (es.map (·.val)) →
    (∀ (n : Nat) (k' : V) (e : MapEntry), ks[n]? = some k' → es[n]? = some e → f e.key = keySame ty k k') →
    (dictFind ty k ks vs = none ∧ findRes f es i = none ∧ ∀ v, dictPut ty k v ks vs = (ks ++ [k], vs ++ [v])) ∨
    (∃ (n : Nat) (e : MapEntry) (k' v' : V), dictFind ty k ks vs = some v' ∧ findRes f es i = some (i + n, e.val) ∧ es[n]? = some e ∧ ks[n]? = some k' ∧ vs[n]? = some v' ∧ keySame ty k k' = true ∧ Rep T w O v' R' e.val ∧ Rep T w O k' R' e.key ∧ ∀ v, dictPut ty k v ks vs = (ks.set n k, vs.set n v))
  | [], ks, vs, i, hk, hv, _ => by
    cases ks with
    | cons => have := hk.length; simp at this
    | nil => cases vs with
      | cons => have := hv.length; simp at this
      | nil => exact .inl ⟨rfl, rfl, fun _ => rfl⟩
  | e :: es, ks, vs, i, hk, hv, hf => by
    cases ks with
    | nil => have := hk.length; simp at this
    | cons k' ks =>
      cases vs with
      | nil => have := hv.length; simp at this
      | cons v' vs =>
        obtain ⟨x, r, hx, h1, h2⟩ := hk
        simp only [List.map_cons, List.cons.injEq] at hx
        obtain ⟨rfl, rfl⟩ := hx
        obtain ⟨y, r, hy, h3, h4⟩ := hv
        simp only [List.map_cons, List.cons.injEq] at hy
        obtain ⟨rfl, rfl⟩ := hy
        have h0 := hf 0 k' e rfl rfl
        cases hs : keySame ty k k' with
        | true =>
          rw [hs] at h0
          exact .inr ⟨0, e, k', v', by simp [dictFind, hs], by simp [findRes, h0], rfl, rfl, rfl, hs, h3, h1, fun v => by simp [dictPut, hs]⟩
        | false =>
          rw [hs] at h0
          rcases find_dict es ks vs (i + 1) h2 h4 (fun n k2 e2 h5 h6 => hf (n + 1) k2 e2 (by simpa using h5) (by simpa using h6)) with ⟨h5, h6, h7⟩ | ⟨n, e2, k2, v2, h5, h6, h7, h8, h9, h10, h11, h12, h13⟩
          · exact .inl ⟨by simp [dictFind, hs, h5], by simp [findRes, h0, h6], fun v => by simp [dictPut, hs, h7]⟩
          · exact .inr ⟨n + 1, e2, k2, v2, by simp [dictFind, hs, h5], by simp [findRes, h0, h6]; omega, by simpa using h7, by simpa using h8, by simpa using h9, h10, h11, h12, fun v => by simp [dictPut, hs, h13]⟩
end
section
variable {E : Env} {P : Program} {Z : Nat → Prop} {h view : Nat → Ob} {β : Nat → Loc} {w : World} {s : Nat → V} {a : Act} {fr : Nat} {o : Oper} {r : Rs}

def okX (ok : Bool) (x : Value) (b : Bool) : Value := match ok with | true => .tuple #[x, .bool b] | false => x
def lookRes (ok : Bool) (res : Option (Nat × Value)) (z : Value) : Value := match res with | some y => okX ok y.2 true | none => okX ok z false
theorem Rep.withOk {T : TypeId → Ty} {O : Nat → Prop} {R : V → Value → Prop} {v : V} {x : Value} (ok b : Bool) (hr : Rep T w O v R x) : Rep T w O (withOk ok v b) R (okX ok x b) := by
  cases ok
  · exact hr
  · exact ⟨_, rfl, ⟨_, _, rfl, hr, ⟨_, _, rfl, rfl, rfl⟩⟩⟩
theorem run_lookup_map {t kt et : TypeId} {x : Value} {ok : Bool} {es : Array MapEntry} {clk m : Nat} {res : Option (Nat × Value)} {z : Value} (hu : P.underlying t = some (.map kt et)) (hm : w.heap[m]? = some (.map es clk))
    (h1 : (Instr.checkKey es.isEmpty 10000 kt x).run P w = .ok () w) (h2 : (Instr.findKey kt x es.toList).run P w = .ok res w) (hz : (zeroValue et).run P w = .ok z w) :
    (Instr.lookup t (.map (some m)) x ok).run P w = .ok (lookRes ok res z) w := by
  have hg : (getObj m).run P w = .ok (.map es clk) w := by simp [getObj, Sem.run, hm]
  cases res with
  | none => cases ok <;> simp [Instr.lookup, run_underlying hu, hg, h1, h2, hz, lookRes, okX]
  | some y => cases ok <;> simp [Instr.lookup, run_underlying hu, hg, h1, h2, lookRes, okX]
theorem op_lookup (c : Ctx E P Z h view β w s a) {t : TypeId} {x y : Operand} {ok : Bool} (ho : o.op = .lookup t x y ok) (he : (evOp E view s fr o).eval = some r) : Gives E P Z h β w a o r := by
  simp only [evOp, ho] at he
  have hx := c.val x
  have hy := c.val y
  split at he
  · rename_i kt et hd
    have hu := (c.ty.row (ok_of hd (by simp))).map hd
    split at he
    · simp [Tr.eval] at he
    · rename_i hc
      simp only [Bool.and_eq_true] at hc
      obtain ⟨⟨⟨hk1, hk2⟩, hk3⟩, hk4⟩ := hc
      have rowk := c.ty.row hk1
      have rowe := c.ty.row hk2
      obtain ⟨z, hz1, hz2, _, _⟩ := rowe.rep_zero (T := E.ty) (w := w) (O := Own Z h β) w (RefRep E.ty h β)
      have zero : ∀ (u : Value), (Instr.lookup t (a.eval x) (a.eval y) ok).run P w = .ok (okX ok z false) w →
          r = .ok (withOk ok (zeroT (E.ty et)) false) [] → Gives E P Z h β w a o r := by
        intro u hr hr2
        refine ⟨_, (okX ok z false), hr2, by simp only [execOp, ho, Sem.run_bind, hr, Result.andThen_ok]; rfl, ?_⟩
        cases ok
        · exact hz2
        · exact ⟨_, rfl, ⟨z, _, rfl, hz2, ⟨_, _, rfl, rfl, rfl⟩⟩⟩
      have go : ∀ (ks vs : List V) (m : Nat) (es : Array MapEntry) (clk : Nat), DictOk E.ty t ks vs → a.eval x = .map (some m) → w.heap[m]? = some (.map es clk) →
          RepL E.ty w (Own Z h β) ks noR (es.toList.map (·.key)) → RepL E.ty w (Own Z h β) vs noR (es.toList.map (·.val)) →
          (Tr.ite (dictFind (E.ty kt) (ev E s y) ks vs).isSome
            (.ret (.ok (withOk ok (etaT (E.ty et) ((dictFind (E.ty kt) (ev E s y) ks vs).getD .top)) true) []))
            (.ret (.ok (withOk ok (zeroT (E.ty et)) false) [])) : Tr Rs).eval = some r → Gives E P Z h β w a o r := by
        intro ks vs m es clk hdk hxm hm hrk hrv hev
        obtain ⟨hd1, hd2⟩ := hdk kt et hd
        obtain ⟨f, hf1, hf2⟩ := run_findKey (P := P) (es := es.toList) rowk hk4 hk1 hk3 hy hrk hd1
        have hck := run_checkKey (P := P) rowk hk4 hk1 hk3 hy es.isEmpty
        have hrun := fun ok => run_lookup_map (ok := ok) hu hm hck hf2 hz1
        rcases find_dict es.toList ks vs 0 hrk hrv hf1 with ⟨h5, h6, _⟩ | ⟨n, e, k', v', h5, h6, _, _, h9, _, h11, _⟩
        · rw [h5] at hev
          simp only [Option.isSome_none, Tr.eval, Option.some.injEq] at hev
          refine zero z ?_ hev.symm
          rw [hxm, hrun, h6]
          cases ok <;> rfl
        · rw [h5] at hev
          simp only [Option.isSome_some, Tr.eval, Option.some.injEq, Option.getD_some] at hev
          have hform := hd2 v' (List.mem_of_getElem? h9)
          rw [hform.2] at hev
          have hrep := Rep.refs _ _ (RefRep E.ty h β) _ (fun _ _ _ h => h.elim) h11
          refine ⟨_, (okX ok e.val true), hev.symm, ?_, ?_⟩
          · simp only [execOp, ho, hxm, Sem.run_bind, hrun, h6, Result.andThen_ok]
            cases ok <;> rfl
          · cases ok
            · exact hrep
            · exact ⟨_, rfl, ⟨_, _, rfl, hrep, ⟨_, _, rfl, rfl, rfl⟩⟩⟩
      split at he
      · rename_i i hv
        split at he
        · rename_i ro t' ks vs hq
          split at he
          · rename_i hte
            have := nat_of_beq hte
            subst this
            have hi := c.sees.at_ hq (by simp)
            rw [hv] at hx
            obtain ⟨_, hx⟩ := hx
            have hob := c.cx.ob i
            rw [hi] at hob
            obtain ⟨_, hdk, es, clk, hm, hrk, hrv⟩ := hob
            exact go ks vs _ es clk hdk hx hm hrk hrv he
          · simp [Tr.eval] at he
        · simp [Tr.eval] at he
      · rename_i t' ks vs hv
        split at he
        · rename_i hte
          have := nat_of_beq hte
          subst this
          rw [hv] at hx
          obtain ⟨m, es, clk, hx, _, _, hm, hdk, hrk, hrv⟩ := hx
          exact go ks vs m es clk hdk hx hm hrk hrv he
        · simp [Tr.eval] at he
      · rename_i hv
        simp only [Tr.eval, Option.some.injEq] at he
        rw [hv] at hx
        refine zero z ?_ he.symm
        rw [show a.eval x = _ from hx]
        have hck := run_checkKey (P := P) rowk hk4 hk1 hk3 hy true
        obtain ⟨f, hf1, hf2⟩ := run_findKey (P := P) (es := []) (ks := []) (R' := noR) rowk hk4 hk1 hk3 hy rfl (by simp)
        have hf3 : (Instr.findKey kt (a.eval y) []).run P w = .ok none w := hf2
        cases ok <;> simp [Instr.lookup, run_underlying hu, hck, hf3, hz1, okX]
      · simp [Tr.eval] at he
  · simp [Tr.eval] at he
end
end Go.AH
