/- The contract of the law's works: the chapter's examples hold. -/
import Derived.Test.YtecplbjggbelbaaVals2
import Derived.Test.YtecplbjggbelbaaChg2
namespace Go.Proofs.Ytecplbjggbelbaa
open Go.RowKit Go.Sort

set_option maxHeartbeats 400000 in
theorem law_variable (nm : ByteArray) (t fr to : Int) (w : World) :
    Calls Try.prog 25 #[.string nm, .int .i64 t, .int .i64 fr, .int .i64 to] w fun e w' => e = .returned (.agg #[.string nm, .int .i64 t, .int .i64 0, .int .i64 fr, .int .i64 to]) ∧ Below w.heap.size w w' := by
  go_enter Try.func25, Try.ntmps25
  go_wp2
  refine bodyPost_ret (v := .agg #[.string nm, .int .i64 t, .int .i64 0, .int .i64 fr, .int .i64 to]) ?_ rfl ⟨rfl, (Below.refl _ _).alloc (Nat.le_refl _) _⟩
  simp [results, Try.results25, go_sem]

/-- A new block reads as its cells. -/
theorem Reads.new (w : World) (xs : List Value) (t : TypeId) (n size : Nat) (h : xs.length = n * size) : Reads (w.alloc (.cells xs.toArray t)) (w.heap.size + 1) size (some ⟨w.heap.size, 0, none⟩) n xs :=
  ⟨h, fun _ => ⟨_, rfl, Nat.lt_succ_self _, cell_new w xs t⟩⟩
theorem Reads.cut0 {w : World} {B size n k : Nat} {A : Option Addr} {xs ys : List Value} (h : Reads w B size A n xs) (hk : k ≤ n) (hy : ys = xs.take (k * size)) : Reads w B size A k ys := by
  subst hy
  refine ⟨by rw [List.length_take, h.1]; exact Nat.min_eq_left (Nat.mul_le_mul_right _ hk), fun hn => ?_⟩
  obtain ⟨ad, e, hb, hc⟩ := h.2 (by omega)
  refine ⟨ad, e, hb, fun j u hu => hc j u ?_⟩
  rw [List.getElem?_take] at hu
  split at hu
  · exact hu
  · cases hu

def wOld : List Va := [⟨⟨#[120]⟩, 1, 0, 0, 5⟩, ⟨⟨#[112]⟩, 2, 0, 2, 4⟩, ⟨⟨#[97]⟩, 3, 0, 1, 4611686018427387904⟩]
def wVals : List Av := [⟨1, 7⟩, ⟨2, 1⟩, ⟨3, 2⟩]
def wFresh : List Va := [⟨⟨#[97]⟩, 3, 0, 0, 0⟩, ⟨⟨#[121]⟩, 1, 0, 0, 0⟩, ⟨⟨#[120]⟩, 1, 0, 0, 0⟩]
def wOther : List Va := [⟨⟨#[112]⟩, 1, 0, 0, 0⟩]
def wGot : List Av := [⟨3, 2⟩, ⟨1, 0⟩, ⟨1, 7⟩]
theorem bl (x : UInt8) : (⟨#[x]⟩ : ByteArray).toList = [x] := by
  rw [ByteArray.toList_eq]
theorem w1 : valuesOf wOld wFresh wVals = some wGot := by
  simp [valuesOf, wOld, wFresh, wVals, wGot, okAll, chk, slotsOf, keyFrom, Va.is, bl, valsFrom, valOf]
theorem w2 : valuesOf wOld wOther (wVals.take 2) = none := by simp [valuesOf, wOld, wVals]
theorem w3 : chgOf wOld wOther (inFrom 0 0 wOld) = none := by simp [wOld, wOther, inFrom, Va.sees, chgOf, findFrom, bl]
theorem w4 : chgOf wOld wOther (inFrom 2 0 wOld) = some ⟨#[112]⟩ := by simp [wOld, wOther, inFrom, Va.sees, chgOf, findFrom, bl]
theorem w5 : chgOf wOld wOther (inFrom 4 0 wOld) = none := by simp [wOld, wOther, inFrom, Va.sees, chgOf, findFrom, bl]
theorem w6 : slotsOf wOld wFresh = [2, -1, 0] := by simp [wOld, wFresh, slotsOf, keyFrom, Va.is, bl]

set_option maxHeartbeats 4000000 in
theorem law_works (w : World) : Calls Try.prog 9 #[] w (BoolPost true w) := by
  go_enter Try.func9, Try.ntmps9
  go_wp2_with fail
  refine (law_variable _ _ _ _ _).mono ?_
  rintro e a1 ⟨rfl, ha1⟩
  go_wp2_with fail
  refine (law_variable _ _ _ _ _).mono ?_
  rintro e a2 ⟨rfl, ha2⟩
  go_wp2_with fail
  refine (law_variable _ _ _ _ _).mono ?_
  rintro e a3 ⟨rfl, ha3⟩
  have b2 := ha1.trans (ha2.mono ha1.size)
  have b3 := b2.trans (ha3.mono b2.size)
  have s3 := b3.size
  obtain ⟨W3, hW3⟩ : ∃ W, W = (a3.alloc (.cells #[.string ⟨#[120]⟩, .int .i64 1, .int .i64 0, .int .i64 0, .int .i64 5, .string ⟨#[112]⟩, .int .i64 2, .int .i64 0, .int .i64 2, .int .i64 4, .string ⟨#[97]⟩, .int .i64 3, .int .i64 0, .int .i64 1, .int .i64 4611686018427387904] 48)).alloc (.cells #[.int .i64 1, .int .i64 7, .int .i64 2, .int .i64 1, .int .i64 3, .int .i64 2] 44) := ⟨_, rfl⟩
  have sW3 : W3.heap.size = a3.heap.size + 2 := by rw [hW3]; simp
  have O3 : Reads W3 W3.heap.size 5 (some ⟨a3.heap.size, 0, none⟩) 3 (vcells wOld) := by
    rw [hW3]
    exact ((Reads.new a3 (vcells wOld) 48 3 5 rfl).alloc (by simp) _).more (by simp)
  have V3 : Reads W3 W3.heap.size 2 (some ⟨a3.heap.size + 1, 0, none⟩) 3 (acells wVals) := by
    rw [hW3]
    have h := Reads.new (a3.alloc (.cells #[.string ⟨#[120]⟩, .int .i64 1, .int .i64 0, .int .i64 0, .int .i64 5, .string ⟨#[112]⟩, .int .i64 2, .int .i64 0, .int .i64 2, .int .i64 4, .string ⟨#[97]⟩, .int .i64 3, .int .i64 0, .int .i64 1, .int .i64 4611686018427387904] 48)) (acells wVals) 44 3 2 rfl
    simp only [World.size_alloc] at h
    exact h.more (by simp)
  have bW3 : Below w.heap.size w W3 := by rw [hW3]; exact (b3.alloc s3 _).alloc (by simp; omega) _
  have HW3 := Lib.hid hW3
  have HS3 := Lib.hid sW3
  clear ha1 ha2 ha3 b2 hW3 sW3
  go_wp2_with fail
  rw [← HW3.out]
  refine (law_variable _ _ _ _ _).mono ?_
  rintro e a4 ⟨rfl, ha4⟩
  go_wp2_with fail
  refine (law_variable _ _ _ _ _).mono ?_
  rintro e a5 ⟨rfl, ha5⟩
  go_wp2_with fail
  refine (law_variable _ _ _ _ _).mono ?_
  rintro e a6 ⟨rfl, ha6⟩
  have b5 := ha4.trans (ha5.mono ha4.size)
  have b6 := b5.trans (ha6.mono b5.size)
  obtain ⟨W6, hW6⟩ : ∃ W, W = a6.alloc (.cells #[.string ⟨#[97]⟩, .int .i64 3, .int .i64 0, .int .i64 0, .int .i64 0, .string ⟨#[121]⟩, .int .i64 1, .int .i64 0, .int .i64 0, .int .i64 0, .string ⟨#[120]⟩, .int .i64 1, .int .i64 0, .int .i64 0, .int .i64 0] 48) := ⟨_, rfl⟩
  have s6 := b6.size
  have O6 : Reads W6 W6.heap.size 5 (some ⟨a3.heap.size, 0, none⟩) 3 (vcells wOld) := by
    rw [hW6]; exact ((O3.below b6).alloc s6 _).more (by simp; omega)
  have V6 : Reads W6 W6.heap.size 2 (some ⟨a3.heap.size + 1, 0, none⟩) 3 (acells wVals) := by
    rw [hW6]; exact ((V3.below b6).alloc s6 _).more (by simp; omega)
  have F6 : Reads W6 W6.heap.size 5 (some ⟨a6.heap.size, 0, none⟩) 3 (vcells wFresh) := by
    rw [hW6]; exact (Reads.new a6 (vcells wFresh) 48 3 5 rfl).more (by simp)
  have bW6 : Below w.heap.size w W6 := by rw [hW6]; exact (bW3.trans (b6.mono bW3.size)).alloc (by have := bW3.size; omega) _
  have HW6 := Lib.hid hW6
  clear ha4 ha5 ha6 b5 b6 hW6 O3 V3 bW3 HW3 HS3 s6 s3 b3
  have C7 := carry_Values wOld wFresh wVals W6.heap.size _ _ _ 3 3 3 W6 O6 F6 V6 (Nat.le_refl _) (by decide) (by decide) (by decide)
  rw [w1] at C7
  have K7 := Lib.hid C7
  clear C7
  go_wp2_with fail
  rw [← HW6.out]
  refine (K7.out).mono ?_
  rintro e a7 ⟨g7, rfl, G7, h7⟩
  obtain ⟨A7, c7, rfl⟩ := own_form G7
  have R7 := Reads.of_own G7
  simp only [Option.getD_some, Option.isSome_some, if_true]
  go_wp2_with fail
  refine (law_variable _ _ _ _ _).mono ?_
  rintro e a8 ⟨rfl, h8⟩
  have s7 := h7.size
  have s8 := h8.size
  have b8 := h7.trans (h8.mono s7)
  obtain ⟨W8, hW8⟩ : ∃ W, W = a8.alloc (.cells #[.string ⟨#[112]⟩, .int .i64 1, .int .i64 0, .int .i64 0, .int .i64 0] 48) := ⟨_, rfl⟩
  have O8 : Reads W8 W8.heap.size 5 (some ⟨a3.heap.size, 0, none⟩) 3 (vcells wOld) := by
    rw [hW8]; exact ((O6.below b8).alloc b8.size _).more (by have := b8.size; simp; omega)
  have V8 : Reads W8 W8.heap.size 2 (some ⟨a3.heap.size + 1, 0, none⟩) 3 (acells wVals) := by
    rw [hW8]; exact ((V6.below b8).alloc b8.size _).more (by have := b8.size; simp; omega)
  have F8 : Reads W8 W8.heap.size 5 (some ⟨a6.heap.size, 0, none⟩) 3 (vcells wFresh) := by
    rw [hW8]; exact ((F6.below b8).alloc b8.size _).more (by have := b8.size; simp; omega)
  have G8 : Reads W8 W8.heap.size 2 A7 3 (acells wGot) := by
    rw [hW8]; exact ((R7.below h8).alloc s8 _).more (by simp; omega)
  have T8 : Reads W8 W8.heap.size 5 (some ⟨a8.heap.size, 0, none⟩) 1 (vcells wOther) := by
    rw [hW8]; exact (Reads.new a8 (vcells wOther) 48 1 5 rfl).more (by simp)
  have bW8 : Below w.heap.size w W8 := by rw [hW8]; exact (bW6.trans (b8.mono bW6.size)).alloc (by have := bW6.size; have := b8.size; omega) _
  have HW8 := Lib.hid hW8
  clear h7 h8 s7 s8 b8 hW8 O6 V6 F6 R7 G7 bW6 HW6
  have C9 := carry_Values wOld wOther (wVals.take 2) W8.heap.size _ _ _ 3 1 3 W8 O8 T8 (V8.cut0 (by decide) rfl) (Nat.le_refl _) (by decide) (by decide) (by decide)
  rw [w2] at C9
  have K9 := Lib.hid C9
  clear C9
  go_wp2_with fail
  rw [← HW8.out]
  refine (K9.out).mono ?_
  rintro e a9 ⟨g9, rfl, -, h9⟩
  simp only [Option.isSome_none]
  have s9 := h9.size
  have O9 := (O8.below h9).more s9
  have F9 := (F8.below h9).more s9
  have G9 := (G8.below h9).more s9
  have T9 := (T8.below h9).more s9
  have bW9 := bW8.trans (h9.mono bW8.size)
  clear O8 V8 F8 G8 T8 bW8 HW8 h9 s9
  have C10 := carry_Changed wOld wOther a9.heap.size _ _ 3 1 0 a9 O9 T9 (Nat.le_refl _) (by decide) (by decide)
  rw [w3] at C10
  have K10 := Lib.hid C10
  clear C10
  go_wp2_with fail
  refine (K10.out).mono ?_
  rintro e a10 ⟨rfl, h10⟩
  have s10 := h10.size
  have O10 := (O9.below h10).more s10
  have F10 := (F9.below h10).more s10
  have G10 := (G9.below h10).more s10
  have T10 := (T9.below h10).more s10
  have bW10 := bW9.trans (h10.mono bW9.size)
  simp only [nm0, Option.getD_some, Option.getD_none, Option.isSome_some, Option.isSome_none]
  clear O9 F9 G9 T9 bW9 h10 s10
  have C11 := carry_Changed wOld wOther a10.heap.size _ _ 3 1 2 a10 O10 T10 (Nat.le_refl _) (by decide) (by decide)
  rw [w4] at C11
  have K11 := Lib.hid C11
  clear C11
  go_wp2_with fail
  refine (K11.out).mono ?_
  rintro e a11 ⟨rfl, h11⟩
  have s11 := h11.size
  have O11 := (O10.below h11).more s11
  have F11 := (F10.below h11).more s11
  have G11 := (G10.below h11).more s11
  have T11 := (T10.below h11).more s11
  have bW11 := bW10.trans (h11.mono bW10.size)
  simp only [nm0, Option.getD_some, Option.getD_none, Option.isSome_some, Option.isSome_none]
  clear O10 F10 G10 T10 bW10 h11 s11
  have C12 := carry_Changed wOld wOther a11.heap.size _ _ 3 1 4 a11 O11 T11 (Nat.le_refl _) (by decide) (by decide)
  rw [w5] at C12
  have K12 := Lib.hid C12
  clear C12
  go_wp2_with fail
  refine (K12.out).mono ?_
  rintro e a12 ⟨rfl, h12⟩
  have s12 := h12.size
  have O12 := (O11.below h12).more s12
  have F12 := (F11.below h12).more s12
  have G12 := (G11.below h12).more s12
  have T12 := (T11.below h12).more s12
  have bW12 := bW11.trans (h12.mono bW11.size)
  simp only [nm0, Option.getD_some, Option.getD_none, Option.isSome_some, Option.isSome_none]
  clear O11 F11 G11 T11 bW11 h12 s12
  have C13 := carry_Slots wOld wFresh a12.heap.size _ _ 3 3 a12 O12 F12 (Nat.le_refl _) (by decide) (by decide)
  rw [w6] at C13
  have K13 := Lib.hid C13
  clear C13
  go_wp2_with fail
  refine (K13.out).mono ?_
  rintro e a13 ⟨g13, rfl, S13, h13⟩
  obtain ⟨A13, c13, rfl⟩ := own_form S13
  have R13 := Reads.of_own S13
  have s13 := h13.size
  have G13 := (G12.below h13).more s13
  have bW13 := bW12.trans (h13.mono bW12.size)
  obtain ⟨W13, hW13⟩ : ∃ W, W = a13.alloc (.cells #[.int .i64 2, .int .i64 (-1), .int .i64 0] 3) := ⟨_, rfl⟩
  have R13' : Reads W13 W13.heap.size 1 A13 3 (([2, -1, 0] : List Int).map (Value.int .i64)) := by rw [hW13]; exact (R13.alloc (Nat.le_refl _) _).more (by simp)
  have I13 : Reads W13 W13.heap.size 1 (some ⟨a13.heap.size, 0, none⟩) 3 (([2, -1, 0] : List Int).map (Value.int .i64)) := by rw [hW13]; exact (Reads.new a13 _ 3 3 1 rfl).more (by simp)
  have G13' : Reads W13 W13.heap.size 2 A7 3 (acells wGot) := by rw [hW13]; exact (G13.alloc (Nat.le_refl _) _).more (by simp)
  have bW13' : Below w.heap.size w W13 := by rw [hW13]; exact bW13.alloc bW13.size _
  have HW13 := Lib.hid hW13
  clear O12 F12 G12 T12 bW12 S13 h13 s13 R13 G13 bW13 hW13
  have C14 := law_ints [2, -1, 0] [2, -1, 0] W13.heap.size _ _ c13 3 W13 R13' I13 (Nat.le_refl _) (by decide)
  have K14 := Lib.hid C14
  clear C14
  go_wp2_with fail
  rw [← HW13.out]
  refine (K14.out).mono ?_
  rintro e a14 ⟨rfl, h14⟩
  have s14 := h14.size
  have G14 := (G13'.below h14).more s14
  have bW14 := bW13'.trans (h14.mono bW13'.size)
  obtain ⟨W14, hW14⟩ : ∃ W, W = a14.alloc (.cells #[.int .i64 3, .int .i64 2, .int .i64 1, .int .i64 0, .int .i64 1, .int .i64 7] 44) := ⟨_, rfl⟩
  have G14' : Reads W14 W14.heap.size 2 A7 3 (acells wGot) := by rw [hW14]; exact (G14.alloc (Nat.le_refl _) _).more (by simp)
  have X14 : Reads W14 W14.heap.size 2 (some ⟨a14.heap.size, 0, none⟩) 3 (acells wGot) := by rw [hW14]; exact (Reads.new a14 _ 44 3 2 rfl).more (by simp)
  have bW14' : Below w.heap.size w W14 := by rw [hW14]; exact bW14.alloc bW14.size _
  have HW14 := Lib.hid hW14
  clear R13' I13 G13' bW13' HW13 h14 s14 G14 bW14 hW14
  have C15 := ref_Same wGot wGot W14.heap.size _ _ c7 3 W14 G14' X14 (Nat.le_refl _) (by decide)
  have K15 := Lib.hid C15
  clear C15
  simp only [decide_true]
  go_wp2_with fail
  rw [← HW14.out]
  refine (K15.out).mono ?_
  rintro e a15 ⟨rfl, h15⟩
  have bW15 := bW14'.trans (h15.mono bW14'.size)
  simp only [decide_true]
  go_wp2
  go_ret
  exact ⟨rfl, bW15⟩
end Go.Proofs.Ytecplbjggbelbaa
