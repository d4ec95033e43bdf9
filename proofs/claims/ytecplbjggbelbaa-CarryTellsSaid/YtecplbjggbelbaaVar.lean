/- Contracts of layer 10 (names): sees, In, Find, and the reference's In and Find. -/
import Derived.Test.YtecplbjggbelbaaMem
import Derived.Test.YtecplbjggbelbaaVal
namespace Go.Proofs.Ytecplbjggbelbaa
open Go.RowKit

structure Va where
  nm : ByteArray
  t : Int
  no : Int
  fr : Int
  to : Int
def Va.cells (v : Va) : List Value := [.string v.nm, .int .i64 v.t, .int .i64 v.no, .int .i64 v.fr, .int .i64 v.to]
def Va.agg (v : Va) : Value := .agg #[.string v.nm, .int .i64 v.t, .int .i64 v.no, .int .i64 v.fr, .int .i64 v.to]
theorem Va.cells_len (v : Va) : v.cells.length = 5 := rfl
def vcells (l : List Va) : List Value := l.flatMap Va.cells
def Va.sees (v : Va) (p : Int) : Bool := decide (v.fr ≤ p) && decide (p < v.to)

theorem vcells_get {l : List Va} {k : Nat} {v : Va} (h : l[k]? = some v) (j : Nat) (u : Value) (hu : v.cells[j]? = some u) : (vcells l)[k * 5 + j]? = some u :=
  flat_get Va.cells_len l k j v u h hu

set_option maxHeartbeats 400000 in
theorem var_sees (v : Va) (p : Int) (w : World) :
    Calls Try.prog 34 #[v.agg, .int .i64 p] w fun e w' => e = .returned (.bool (v.sees p)) ∧ Below w.heap.size w w' := by
  unfold Va.agg
  go_enter Try.func34, Try.ntmps34
  go_wp2
  all_goals
    go_ret
    refine ⟨ret_bool ?_, (Below.refl _ _).alloc (Nat.le_refl _) _⟩
    simp_all [Va.sees]
    try omega

def inFrom (p : Int) : Nat → List Va → List Int
  | _, [] => []
  | i, v :: r => if v.sees p then (i : Int) :: inFrom p (i + 1) r else inFrom p (i + 1) r

def findFrom (nm : ByteArray) : Nat → List Va → Option Nat
  | _, [] => none
  | i, v :: r => if v.nm.toList == nm.toList then some i else findFrom nm (i + 1) r

theorem find_step (nm : ByteArray) (l : List Va) (k : Nat) (v : Va) (h : l[k]? = some v) :
    findFrom nm k (l.drop k) = if (v.nm.toList == nm.toList) = true then some k else findFrom nm (k + 1) (l.drop (k + 1)) := by
  obtain ⟨hk, rfl⟩ := List.getElem?_eq_some_iff.1 h
  rw [List.drop_eq_getElem_cons hk, findFrom]
theorem in_step (p : Int) (l : List Va) (k : Nat) (v : Va) (h : l[k]? = some v) :
    inFrom p k (l.drop k) = if v.sees p = true then (k : Int) :: inFrom p (k + 1) (l.drop (k + 1)) else inFrom p (k + 1) (l.drop (k + 1)) := by
  obtain ⟨hk, rfl⟩ := List.getElem?_eq_some_iff.1 h
  rw [List.drop_eq_getElem_cons hk, inFrom]

/-- The cells of a variable of a list, where the list lies. -/
theorem var_at {l : List Va} {B n : Nat} {A : Option Addr} {w : World} (hr : Reads w B 5 A n (vcells l)) {k : Nat} (hk : k < l.length) :
    ∃ b o v, A = some ⟨b, o, none⟩ ∧ b < B ∧ l[k]? = some v ∧ w.cell? ⟨b, o + k * 5, none⟩ = some (.string v.nm) ∧ w.cell? ⟨b, o + k * 5 + 1, none⟩ = some (.int .i64 v.t) ∧
      w.cell? ⟨b, o + k * 5 + 2, none⟩ = some (.int .i64 v.no) ∧ w.cell? ⟨b, o + k * 5 + 3, none⟩ = some (.int .i64 v.fr) ∧ w.cell? ⟨b, o + k * 5 + 4, none⟩ = some (.int .i64 v.to) := by
  have hv : l[k]? = some l[k] := List.getElem?_eq_getElem hk
  obtain ⟨b, o, rfl, hb, hc⟩ := hr.at_ (by rw [vcells, flat_len Va.cells_len]; omega)
  exact ⟨b, o, l[k], rfl, hb, hv, hc _ _ (vcells_get hv 0 _ rfl), hc _ _ (vcells_get hv 1 _ rfl), hc _ _ (vcells_get hv 2 _ rfl), hc _ _ (vcells_get hv 3 _ rfl), hc _ _ (vcells_get hv 4 _ rfl)⟩

def FindPost (nm : ByteArray) (l : List Va) (w : World) (e : Ending) (w' : World) : Prop := e = .returned (.tuple #[.int .i64 (((findFrom nm 0 l).getD 0 : Nat) : Int), .bool (findFrom nm 0 l).isSome]) ∧ w = w'
theorem FindPost.yes {nm : ByteArray} {l : List Va} {w : World} {k : Nat} (h : findFrom nm 0 l = some k) : FindPost nm l w (.returned (.tuple #[.int .i64 k, .bool true])) w := ⟨by rw [h]; rfl, rfl⟩
theorem FindPost.no {nm : ByteArray} {l : List Va} {w : World} (h : findFrom nm 0 l = none) : FindPost nm l w (.returned (.tuple #[.int .i64 0, .bool false])) w := ⟨by rw [h]; rfl, rfl⟩

set_option maxHeartbeats 400000 in
theorem ref_Find (l : List Va) (B : Nat) (A : Option Addr) (c : Nat) (nm : ByteArray) (w : World) (hr : Reads w B 5 A l.length (vcells l)) (hm : l.length ≤ maxLen) :
    Calls Try.prog 28 #[.slice A l.length c, .string nm] w (FindPost nm l w) := by
  unfold maxLen at hm
  go_enter Try.func28, Try.ntmps28
  go_wp2
  go_loop [6] (fun i => ∃ k : Nat, k ≤ l.length ∧ i = .int .i64 k ∧ Hid (findFrom nm 0 l = findFrom nm k (l.drop k))) (fun i => l.length - (intOf i).toNat)
  case atStart => exact ⟨0, Nat.zero_le _, rfl, rfl⟩
  case round =>
    obtain ⟨k, hk, rfl, H⟩ := hrel
    by_cases hlt : k < l.length
    · obtain ⟨b, o, v, rfl, hb, hv, c0, -⟩ := var_at hr hlt
      have hs := find_step nm l k v hv
      by_cases hq : (v.nm.toList == nm.toList) = true
      · have HF := Lib.hid (H.out.trans (hs.trans (if_pos hq)))
        clear hs hv H
        go_wp2
        go_ret2
        exact FindPost.yes HF.out
      · have HF := Lib.hid (H.out.trans (hs.trans (if_neg hq)))
        have hq' : (v.nm.toList == nm.toList) = false := by simpa using hq
        clear hs hv H hq
        go_wp2
        go_round
        case rel => exact ⟨k + 1, by omega, by go_num, HF.out⟩
        case measure => simp [intOf]; omega
    · have HF := Lib.hid (H.out.trans (by rw [List.drop_of_length_le (by omega)]; rfl : _ = none))
      clear H
      go_wp2
      go_ret2
      exact FindPost.no HF.out

/-- The function value that Find hands on. -/
def findFn (b : Nat) : Value := .func (.func 33) #[] #[.pointer (some ⟨b, 0, none⟩)]
set_option maxHeartbeats 400000 in
theorem find_fn (v : Va) (b : Nat) (nm : ByteArray) (w : World) (hn : w.cell? ⟨b, 0, none⟩ = some (.string nm)) :
    Calls Try.prog 33 #[v.agg, .pointer (some ⟨b, 0, none⟩)] w fun e w' => e = .returned (.bool (v.nm.toList == nm.toList)) ∧ Below w.heap.size w w' := by
  have hb : b < w.heap.size := World.block_lt_of_cell? w _ hn
  unfold Va.agg
  go_enter Try.func33, Try.ntmps33
  go_wp2
  go_ret
  exact ⟨rfl, (Below.refl _ _).alloc (Nat.le_refl _) _⟩

def IdxPost (nm : ByteArray) (l : List Va) (w : World) (e : Ending) (w' : World) : Prop :=
  e = .returned (.int .i64 (match findFrom nm 0 l with | some k => (k : Int) | none => -1)) ∧ Below w.heap.size w w'
theorem IdxPost.yes {nm : ByteArray} {l : List Va} {w w' : World} {k : Nat} (h : findFrom nm 0 l = some k) (hb : Below w.heap.size w w') : IdxPost nm l w (.returned (.int .i64 k)) w' := ⟨by rw [h], hb⟩
theorem IdxPost.no {nm : ByteArray} {l : List Va} {w w' : World} (h : findFrom nm 0 l = none) (hb : Below w.heap.size w w') : IdxPost nm l w (.returned (.int .i64 (-1))) w' := ⟨by rw [h], hb⟩
set_option maxHeartbeats 400000 in
theorem index_func (l : List Va) (B : Nat) (A : Option Addr) (c : Nat) (nm : ByteArray) (b0 : Nat) (w : World) (hr : Reads w B 5 A l.length (vcells l)) (hB : B ≤ w.heap.size) (hm : l.length ≤ maxLen) (hn : w.cell? ⟨b0, 0, none⟩ = some (.string nm)) :
    Calls Try.prog 36 #[.slice A l.length c, findFn b0] w (IdxPost nm l w) := by
  unfold maxLen at hm
  unfold findFn
  have hb0 : b0 < w.heap.size := World.block_lt_of_cell? w _ hn
  go_enter Try.func36, Try.ntmps36
  go_wp2
  go_loopw [8] (fun i wr => ∃ k : Nat, k ≤ l.length ∧ i = .int .i64 k ∧ Hid (findFrom nm 0 l = findFrom nm k (l.drop k)) ∧ Below w.heap.size w wr) (fun i _ => l.length - (intOf i).toNat)
  case atStart => exact ⟨0, Nat.zero_le _, rfl, rfl, Below.refl _ _⟩
  case round =>
    obtain ⟨k, hk, rfl, H, hbw⟩ := hrel
    by_cases hlt : k < l.length
    · obtain ⟨b, o, v, rfl, hb, hv, c0, c1, c2, c3, c4⟩ := var_at (hr.below (hbw.mono hB)) hlt
      have hn' := (hbw.cell (p := ⟨b0, 0, none⟩) hb0).trans hn
      have hs := find_step nm l k v hv
      by_cases hq : (v.nm.toList == nm.toList) = true
      · have HF := Lib.hid (H.out.trans (hs.trans (if_pos hq)))
        clear hs hv H
        go_wp2_with (go_at_call 33; refine (find_fn v b0 nm _ hn').mono ?_; rintro e w1 ⟨rfl, hb1⟩)
        go_ret
        exact IdxPost.yes HF.out (hbw.trans (hb1.mono hbw.size))
      · have HF := Lib.hid (H.out.trans (hs.trans (if_neg hq)))
        have hq' : (v.nm.toList == nm.toList) = false := by simpa using hq
        clear hs hv H hq
        go_wp2_with (go_at_call 33; refine (find_fn v b0 nm _ hn').mono ?_; rintro e w1 ⟨rfl, hb1⟩)
        go_roundw
        case rel => exact ⟨k + 1, by omega, by go_num, HF.out, hbw.trans (hb1.mono hbw.size)⟩
        case measure => simp [intOf]; omega
    · have HF := Lib.hid (H.out.trans (by rw [List.drop_of_length_le (by omega)]; rfl : _ = none))
      clear H
      go_wp2
      go_ret
      exact IdxPost.no HF.out hbw

def idxI (nm : ByteArray) (l : List Va) : Int := match findFrom nm 0 l with | some k => (k : Int) | none => -1
theorem idxI_bd (nm : ByteArray) (l : List Va) : -1 ≤ idxI nm l := by unfold idxI; split <;> omega
theorem max_idx (nm : ByteArray) (l : List Va) : (if idxI nm l < 0 then (0 : Int) else idxI nm l) = (((findFrom nm 0 l).getD 0 : Nat) : Int) := by
  unfold idxI; cases findFrom nm 0 l <;> simp; omega
theorem is_idx (nm : ByteArray) (l : List Va) : decide (0 ≤ idxI nm l) = (findFrom nm 0 l).isSome := by
  unfold idxI; cases findFrom nm 0 l <;> simp
def FindPostB (nm : ByteArray) (l : List Va) (w : World) (e : Ending) (w' : World) : Prop := e = .returned (.tuple #[.int .i64 (((findFrom nm 0 l).getD 0 : Nat) : Int), .bool (findFrom nm 0 l).isSome]) ∧ Below w.heap.size w w'
set_option maxHeartbeats 400000 in
theorem names_first (l : List Va) (B : Nat) (A : Option Addr) (c : Nat) (nm : ByteArray) (b0 : Nat) (w : World) (hr : Reads w B 5 A l.length (vcells l)) (hB : B ≤ w.heap.size) (hm : l.length ≤ maxLen) (hn : w.cell? ⟨b0, 0, none⟩ = some (.string nm)) :
    Calls Try.prog 32 #[.slice A l.length c, findFn b0] w (FindPostB nm l w) := by
  have C := Lib.hid (index_func l B A c nm b0 w hr hB hm hn)
  generalize hi : idxI nm l = i
  have hlo : -1 ≤ i := by rw [← hi]; exact idxI_bd nm l
  have H1 := Lib.hid (max_idx nm l)
  have H2 := Lib.hid (is_idx nm l)
  rw [hi] at H1 H2
  have hi' := Lib.hid hi
  clear hi hr hm hn
  unfold findFn at *
  rcases (by omega : i < 0 ∨ 0 ≤ i) with h0 | h0
  all_goals
    go_enter Try.func32, Try.ntmps32
    go_wp2_with (go_at_call 36; refine (C.out).mono ?_; rintro e w1 ⟨he, hb1⟩; obtain rfl : e = .returned (.int .i64 i) := he.trans (ret_i64 hi'.out))
    go_ret2
    refine ⟨?_, hb1⟩
    rw [← H1.out, ← H2.out]
  · simp [h0, show ¬ 0 ≤ i by omega]
  · simp [h0, show ¬ i < 0 by omega]

set_option maxHeartbeats 400000 in
theorem names_Find (l : List Va) (B : Nat) (A : Option Addr) (c : Nat) (nm : ByteArray) (w : World) (hr : Reads w B 5 A l.length (vcells l)) (hB : B ≤ w.heap.size) (hm : l.length ≤ maxLen) :
    Calls Try.prog 23 #[.slice A l.length c, .string nm] w (FindPostB nm l w) := by
  have C := Lib.hid (names_first l B A c nm w.heap.size (w.alloc (.cells #[.string nm] 9)) (hr.alloc hB _) (by simp; omega) hm (by go_simp))
  clear hr hm
  unfold findFn at C
  obtain ⟨r, hr⟩ : ∃ r, r = Ending.returned (.tuple #[.int .i64 (((findFrom nm 0 l).getD 0 : Nat) : Int), .bool (findFrom nm 0 l).isSome]) := ⟨_, rfl⟩
  generalize hx : (((findFrom nm 0 l).getD 0 : Nat) : Int) = x at hr
  generalize hy : (findFrom nm 0 l).isSome = y at hr
  have HX := Lib.hid hx
  have HY := Lib.hid hy
  clear hx hy hr r
  go_enter Try.func23, Try.ntmps23
  go_wp2_with (go_at_call 32; refine (C.out).mono ?_; rintro e w1 ⟨he, hb1⟩; obtain rfl : e = .returned (.tuple #[.int .i64 x, .bool y]) := by rw [he, HX.out, HY.out])
  go_ret2
  exact ⟨he, ((Below.refl _ _).alloc (Nat.le_refl _) _).trans (hb1.mono (by simp))⟩

theorem info_int : (Try.prog.info? 3).map (fun i => (i.zero, i.size, i.bytes)) = some (some (.int .i64 0), 1, 8) := by kernel_rfl
def InPost (p : Int) (l : List Va) (w : World) (e : Ending) (w' : World) : Prop :=
  ∃ v, e = .returned v ∧ w'.ownsRow w.heap.size 3 1 v (inFrom p 0 l).length ((inFrom p 0 l).map (Value.int .i64)) ∧ Below w.heap.size w w'
set_option maxHeartbeats 1000000 in
theorem names_In (l : List Va) (B : Nat) (A : Option Addr) (c : Nat) (p : Int) (w : World) (hr : Reads w B 5 A l.length (vcells l)) (hB : B ≤ w.heap.size) (hm : l.length ≤ 4294967296) :
    Calls Try.prog 26 #[.slice A l.length c, .int .i64 p] w (InPost p l w) := by
  obtain ⟨i0, hi, hz0, hz1, hz2⟩ := info_parts info_int
  go_enter Try.func26, Try.ntmps26
  go_wp2
  go_loopw [5, 10] (fun out i wr => ∃ k : Nat, k ≤ l.length ∧ i = .int .i64 k ∧ ∃ acc : List Int, acc.length ≤ k ∧ Hid (inFrom p 0 l = acc ++ inFrom p k (l.drop k)) ∧ wr.ownsRow w.heap.size 3 1 out acc.length (acc.map (Value.int .i64)) ∧ Below w.heap.size w wr) (fun _ i _ => l.length - (intOf i).toNat)
  case atStart => exact ⟨0, Nat.zero_le _, rfl, [], Nat.le_refl _, rfl, World.ownsRow_nil _ _ _ _, Below.refl _ _⟩
  case round =>
    obtain ⟨k, hk, rfl, acc, hac, H, hown, hbw⟩ := hrel
    by_cases hlt : k < l.length
    · obtain ⟨b, o, v, rfl, hb, hv, c0, c1, c2, c3, c4⟩ := var_at (hr.below (hbw.mono hB)) hlt
      have hs := in_step p l k v hv
      have hsz := hbw.size
      by_cases hq : v.sees p = true
      · have HF := Lib.hid (H.out.trans (by rw [hs, if_pos hq, List.append_cons] : _ = (acc ++ [(k : Int)]) ++ inFrom p (k + 1) (l.drop (k + 1))))
        have C := Lib.hid (var_sees v p)
        rw [hq] at C
        clear hs hv H hr
        go_wp2_with (first | (go_at_call 34; refine (C.out _).mono ?_; rintro e w1 ⟨rfl, hb1⟩; have hown1 := own_below (hown.alloc _) hb1; have hz := hb1.size; simp at hz; have hbw1 : Below w.heap.size w w1 := (hbw.alloc hsz _).trans (hb1.mono (by simp; omega))) | (at_builtin; go_must (refine wpList_append_own _ rfl _ _ 35 rfl w.heap.size 3 i0 (.int .i64 0) 1 8 Try.underlying35 hi hz0 hz1 hz2 rfl (by decide) _ _ _ rfl (hown1.alloc _) ⟨w1.heap.size, 0, none⟩ 1 1 [.int .i64 k] rfl rfl (cell_one_new _ _ _) (by simp [Value.oneCell']) (by unfold maxLen; omega) (by omega) (by simp; omega) ?_); intro v3 w3 hown3 hg3 hn3; go_must (have X : Hid (w3.ownsRow w.heap.size 3 1 v3 (acc ++ [(k : Int)]).length ((acc ++ [(k : Int)]).map (Value.int .i64)) ∧ Below w.heap.size w w3) := ⟨by simpa using hown3, Below.grown (hbw1.alloc (by omega) _) hg3 (by simp; omega) (fun j hj => (hown1.lt _ hj).1)⟩); clear hown3 hg3 hn3))
        go_roundw
        case rel => exact ⟨k + 1, by omega, by go_num, acc ++ [(k : Int)], by simp; omega, HF.out, X.out.1, X.out.2⟩
        case measure => simp [intOf]; omega
      · have HF := Lib.hid (H.out.trans (by rw [hs, if_neg hq] : _ = acc ++ inFrom p (k + 1) (l.drop (k + 1))))
        have C := Lib.hid (var_sees v p)
        rw [show v.sees p = false by simpa using hq] at C
        clear hs hv H hr hq
        go_wp2_with (go_at_call 34; refine (C.out _).mono ?_; rintro e w1 ⟨rfl, hb1⟩; have hown1 := own_below (hown.alloc _) hb1; have hz := hb1.size; simp at hz; have hbw1 : Below w.heap.size w w1 := (hbw.alloc hsz _).trans (hb1.mono (by simp; omega)))
        go_roundw
        case rel => exact ⟨k + 1, by omega, by go_num, acc, by omega, HF.out, hown1, hbw1⟩
        case measure => simp [intOf]; omega
    · have HF := Lib.hid (H.out.trans (by rw [List.drop_of_length_le (by omega)]; simp [inFrom] : _ = acc))
      clear H
      go_wp2
      go_ret
      exact ⟨_, rfl, by rw [HF.out]; exact hown, hbw⟩
end Go.Proofs.Ytecplbjggbelbaa
