/- The contract of carry.Slots. -/
import Derived.Test.YtecplbjggbelbaaMap
import Derived.Test.YtecplbjggbelbaaVar
namespace Go.Proofs.Ytecplbjggbelbaa
open Go.RowKit

def Va.is (v : Va) (nm : ByteArray) (t : Int) : Bool := nm.toList == v.nm.toList && t == v.t
def keyFrom (nm : ByteArray) (t : Int) : Nat → List Va → Option Int
  | _, [] => none
  | i, v :: r => if v.is nm t then some (i : Int) else keyFrom nm t (i + 1) r
def slotsOf (old new : List Va) : List Int := new.map fun v => (keyFrom v.nm v.t 0 old).getD (-1)

theorem keyFrom_snoc (nm : ByteArray) (t : Int) (v : Va) : ∀ (l : List Va) (i : Nat), keyFrom nm t i (l ++ [v]) = match keyFrom nm t i l with | some k => some k | none => if v.is nm t then some ((i + l.length : Nat) : Int) else none
  | [], i => by simp [keyFrom]
  | a :: r, i => by
    simp only [List.cons_append, keyFrom]
    by_cases h : a.is nm t = true
    · simp [h]
    · simp only [h]
      rw [keyFrom_snoc nm t v r (i + 1)]
      simp only [List.length_cons]
      rw [show i + 1 + r.length = i + (r.length + 1) from by omega]
      simp
theorem look_snoc (nm : ByteArray) (t : Int) (e : Ent) : ∀ (l : List Ent), look nm t (l ++ [e]) = match look nm t l with | some k => some k | none => if e.is nm t then some e.i else none
  | [] => by simp [look]
  | a :: r => by
    simp only [List.cons_append, look]
    by_cases h : a.is nm t = true
    · simp [h]
    · simp only [h]; exact look_snoc nm t e r
def Fits (old : List Va) (k : Nat) (ms : List Ent) : Prop := ∀ nm t, look nm t ms = keyFrom nm t 0 (old.take k)
theorem fits_have {old : List Va} {k : Nat} {ms : List Ent} {v : Va} (h : Fits old k ms) (hv : old[k]? = some v) (hl : (look v.nm v.t ms).isSome = true) : Fits old (k + 1) ms := by
  intro nm t
  obtain ⟨hk, rfl⟩ := List.getElem?_eq_some_iff.1 hv
  rw [h, List.take_succ_eq_append_getElem hk, keyFrom_snoc]
  cases h1 : keyFrom nm t 0 (old.take k) with
  | some i => rfl
  | none =>
    by_cases hq : (old[k]).is nm t = true
    · exfalso
      simp [Va.is] at hq
      obtain ⟨hq, rfl⟩ := hq
      have h2 : keyFrom nm (old[k]).t 0 (old.take k) = keyFrom (old[k]).nm (old[k]).t 0 (old.take k) := by
        have : ∀ (l : List Va) (i : Nat), keyFrom nm (old[k]).t i l = keyFrom (old[k]).nm (old[k]).t i l := by
          intro l
          induction l with
          | nil => intro i; rfl
          | cons a r ih => intro i; simp only [keyFrom, Va.is, ih, hq]; rfl
        exact this _ _
      rw [h, ← h2, h1] at hl
      cases hl
    · simp [hq]
theorem fits_new {old : List Va} {k : Nat} {ms : List Ent} {v : Va} (h : Fits old k ms) (hv : old[k]? = some v) (born : Nat) : Fits old (k + 1) (ms ++ [⟨v.nm, v.t, k, born⟩]) := by
  intro nm t
  obtain ⟨hk, rfl⟩ := List.getElem?_eq_some_iff.1 hv
  rw [look_snoc, h, List.take_succ_eq_append_getElem hk, keyFrom_snoc]
  have : (old.take k).length = k := List.length_take_of_le (by omega)
  simp [this, Ent.is, Va.is]
theorem fits_end {old : List Va} {ms : List Ent} (h : Fits old old.length ms) : ∀ nm t, look nm t ms = keyFrom nm t 0 old := fun nm t => by rw [h nm t, List.take_length]

theorem slots_step {l m : List Va} {ms : List Ent} {acc : List Int} {k : Nat} {v : Va} (H : acc = slotsOf l (m.take k)) (HF : ∀ nm t, look nm t ms = keyFrom nm t 0 l) (hv : m[k]? = some v) :
    acc ++ [(look v.nm v.t ms).getD (-1)] = slotsOf l (m.take (k + 1)) := by
  obtain ⟨hk, rfl⟩ := List.getElem?_eq_some_iff.1 hv
  rw [H, List.take_succ_eq_append_getElem hk, HF]
  simp only [slotsOf, List.map_append, List.map_cons, List.map_nil]

def IntsPost (l : List Int) (w : World) (e : Ending) (w' : World) : Prop :=
  ∃ v, e = .returned v ∧ w'.ownsRow w.heap.size 3 1 v l.length (l.map (Value.int .i64)) ∧ Below w.heap.size w w'
set_option maxHeartbeats 2000000 in
theorem carry_Slots (l m : List Va) (B : Nat) (A A' : Option Addr) (c c' : Nat) (w : World) (hr : Reads w B 5 A l.length (vcells l)) (hr' : Reads w B 5 A' m.length (vcells m)) (hB : B ≤ w.heap.size) (hm : l.length ≤ 4294967296) (hm' : m.length ≤ 4294967296) :
    Calls Try.prog 16 #[.slice A l.length c, .slice A' m.length c'] w (IntsPost (slotsOf l m) w) := by
  obtain ⟨i0, hi, hz0, hz1, hz2⟩ := info_parts info_int
  have hmm := @run_makeMap Try.prog
  go_enter Try.func16, Try.ntmps16
  go_wp2
  go_loopw [18] (fun i wr => ∃ k : Nat, k ≤ l.length ∧ i = .int .i64 k ∧ ∃ ms, IsMap wr w.heap.size ms ∧ Hid (Fits l k ms) ∧ Below w.heap.size w wr) (fun i _ => l.length - (intOf i).toNat)
  case atStart => exact ⟨0, Nat.zero_le _, rfl, [], IsMap.new w, fun _ _ => rfl, (Below.refl _ _).alloc (Nat.le_refl _) _⟩
  case round =>
    obtain ⟨k, hk, rfl, ms, hmap, H, hbw⟩ := hrel
    by_cases hlt : k < l.length
    · obtain ⟨b, o, v, rfl, hb, hv, c0, c1, c2, c3, c4⟩ := var_at (hr.below (hbw.mono hB)) hlt
      have hmlt := hmap.lt
      by_cases hq : (look v.nm v.t ms).isSome = true
      · have HF := Lib.hid (fits_have H.out hv hq)
        clear hv H hr hr'
        go_wp2_with (at_lookup; refine wpList_look _ rfl _ _ rfl w.heap.size ms v.nm v.t rfl rfl (hmap.alloc _) ?_)
        go_roundw
        case rel => exact ⟨k + 1, by omega, by go_num, ms, hmap.alloc _, HF.out, hbw.alloc (by omega) _⟩
        case measure => simp [intOf]; omega
      · have hno : look v.nm v.t ms = none := by simpa using hq
        have hq' : (look v.nm v.t ms).isSome = false := by simpa using hq
        have HF := Lib.hid (fits_new H.out hv)
        have HN := Lib.hid hno
        clear hv H hr hr' hno hq
        go_wp2_with (first | (at_lookup; refine wpList_look _ rfl _ _ rfl w.heap.size ms v.nm v.t rfl rfl (hmap.alloc _) ?_) | (at_mapUpdate; refine wpList_put _ rfl _ _ _ rfl w.heap.size ms v.nm v.t k rfl rfl rfl (hmap.alloc _) HN.out ?_; intro w3 born hm3 hg3; have hbw3 : Below w.heap.size w w3 := Below.grown (hbw.alloc (by omega) _) hg3 (by simp; omega) (fun j hj => by injection hj with hj; omega); clear hg3))
        go_roundw
        case rel => exact ⟨k + 1, by omega, by go_num, _, hm3, HF.out born, hbw3⟩
        case measure => simp [intOf]; omega
    · obtain rfl : k = l.length := by omega
      have HF := Lib.hid (fits_end H.out)
      clear H hr
      go_wp2
      go_loopw [10, 45] (fun out i wr => ∃ k : Nat, k ≤ m.length ∧ i = .int .i64 k ∧ ∃ acc : List Int, acc.length = k ∧ Hid (acc = slotsOf l (m.take k)) ∧ wr.ownsRow (w.heap.size + 1) 3 1 out acc.length (acc.map (Value.int .i64)) ∧ IsMap wr w.heap.size ms ∧ Below w.heap.size w wr) (fun _ i _ => m.length - (intOf i).toNat)
      case atStart => exact ⟨0, Nat.zero_le _, rfl, [], rfl, rfl, World.ownsRow_nil _ _ _ _, hmap, hbw⟩
      case round =>
        clear hmap hbw
        obtain ⟨k, hk, rfl, acc, hac, H, hown, hmap, hbw⟩ := hrel
        by_cases hlt : k < m.length
        · obtain ⟨b, o, v, rfl, hb, hv, c0, c1, c2, c3, c4⟩ := var_at (hr'.below (hbw.mono hB)) hlt
          have hmlt := hmap.lt
          have hs := slots_step H.out HF.out hv
          have hk0 : acc.length ≤ k := by omega
          have hk1 : k ≤ acc.length := by omega
          by_cases hq : (look v.nm v.t ms).isSome = true
          · obtain ⟨i, hi'⟩ := Option.isSome_iff_exists.1 hq
            rw [hi'] at hs
            have HI := Lib.hid hi'
            have HS := Lib.hid hs
            clear hv H hr' hs hi' hq hac
            go_wp2_with (first | (at_lookup; refine wpList_look _ rfl _ _ rfl w.heap.size ms v.nm v.t rfl rfl (hmap.alloc _) ?_; rw [HI.out]; simp only [Option.getD_some, Option.getD_none, Option.isSome_some, Option.isSome_none]) | (at_builtin; refine wpList_append_own _ rfl _ _ 35 rfl (w.heap.size + 1) 3 i0 (.int .i64 0) 1 8 Try.underlying35 hi hz0 hz1 hz2 rfl (by decide) _ _ _ rfl ((hown.alloc _).alloc _) ⟨wr.heap.size + 1, 0, none⟩ 1 1 [.int .i64 i] rfl rfl (cell_new2 _ _ _ _) (by simp [Value.oneCell']) (by unfold maxLen; omega) (by omega) (by simp; omega) ?_; intro v3 w3 hown3 hg3 hn3; go_must (have X : Hid (w3.ownsRow (w.heap.size + 1) 3 1 v3 (acc ++ [i]).length ((acc ++ [i]).map (Value.int .i64)) ∧ IsMap w3 w.heap.size ms ∧ Below w.heap.size w w3) := ⟨by simpa using hown3, ((hmap.alloc _).alloc _).grown hg3 (fun h => by have := (hown.lt _ h.symm).1; omega), Below.grown ((hbw.alloc (by omega) _).alloc (by simp; omega) _) hg3 (by simp; omega) (fun j hj => by have := (hown.lt _ hj).1; omega)⟩); clear hown3 hg3 hn3))
            go_roundw
            case rel => exact ⟨k + 1, by omega, by go_num, acc ++ [i], by simp; omega, HS.out, X.out.1, X.out.2.1, X.out.2.2⟩
            case measure => simp [intOf]; omega
          · have hi' : look v.nm v.t ms = none := by simpa using hq
            rw [hi'] at hs
            have HI := Lib.hid hi'
            have HS := Lib.hid hs
            clear hv H hr' hs hi' hq hac
            go_wp2_with (first | (at_lookup; refine wpList_look _ rfl _ _ rfl w.heap.size ms v.nm v.t rfl rfl (hmap.alloc _) ?_; rw [HI.out]; simp only [Option.getD_some, Option.getD_none, Option.isSome_some, Option.isSome_none]) | (at_builtin; refine wpList_append_own _ rfl _ _ 35 rfl (w.heap.size + 1) 3 i0 (.int .i64 0) 1 8 Try.underlying35 hi hz0 hz1 hz2 rfl (by decide) _ _ _ rfl ((hown.alloc _).alloc _) ⟨wr.heap.size + 1, 0, none⟩ 1 1 [.int .i64 (-1)] rfl rfl (cell_new2 _ _ _ _) (by simp [Value.oneCell']) (by unfold maxLen; omega) (by omega) (by simp; omega) ?_; intro v3 w3 hown3 hg3 hn3; go_must (have X : Hid (w3.ownsRow (w.heap.size + 1) 3 1 v3 (acc ++ [(-1)]).length ((acc ++ [(-1)]).map (Value.int .i64)) ∧ IsMap w3 w.heap.size ms ∧ Below w.heap.size w w3) := ⟨by simpa using hown3, ((hmap.alloc _).alloc _).grown hg3 (fun h => by have := (hown.lt _ h.symm).1; omega), Below.grown ((hbw.alloc (by omega) _).alloc (by simp; omega) _) hg3 (by simp; omega) (fun j hj => by have := (hown.lt _ hj).1; omega)⟩); clear hown3 hg3 hn3))
            go_roundw
            case rel => exact ⟨k + 1, by omega, by go_num, acc ++ [(-1)], by simp; omega, HS.out, X.out.1, X.out.2.1, X.out.2.2⟩
            case measure => simp [intOf]; omega
        · obtain rfl : k = m.length := by omega
          have HE := Lib.hid (by rw [H.out, List.take_length] : acc = slotsOf l m)
          clear H hac hr'
          go_wp2
          go_ret
          exact ⟨_, rfl, by rw [← HE.out]; exact own_base hown (by omega), hbw⟩
end Go.Proofs.Ytecplbjggbelbaa
