/- The walk of CarryTells. -/
import Derived.Test.YtecplbjggbelbaaWorks
namespace Go.Proofs.Ytecplbjggbelbaa
open Go.RowKit Go.Sort

theorem valsFrom_len (vals : List Av) : ∀ (m : List Va) (s : List Int), ((valsFrom vals m s).getD []).length ≤ m.length
  | [], [] => by simp [valsFrom]
  | [], _ :: _ => by simp [valsFrom]
  | _ :: _, [] => by simp [valsFrom]
  | v :: r, a :: s => by
    have := valsFrom_len vals r s
    unfold valsFrom
    by_cases hc : chk v.t 0 = 0
    · rw [if_pos hc]
      cases hr : valsFrom vals r s with
      | none => simp
      | some x => rw [hr] at this; simpa using this
    · rw [if_neg hc]; simp
theorem valuesOf_len (l m : List Va) (vs : List Av) : ((valuesOf l m vs).getD []).length ≤ m.length := by
  unfold valuesOf
  split
  · exact valsFrom_len vs m _
  · simp

set_option maxHeartbeats 4000000 in
theorem law_Tells (l m : List Va) (vs : List Av) (p : Int) (A A' A2 : Option Addr) (c c' c2 : Nat) (w : World) (hr : Reads w w.heap.size 5 A l.length (vcells l)) (hr' : Reads w w.heap.size 5 A' m.length (vcells m)) (hr2 : Reads w w.heap.size 2 A2 vs.length (acells vs)) :
    Calls Try.prog 3 #[.slice A l.length c, .slice A' m.length c', .slice A2 vs.length c2, .int .i64 p] w (BoolPost true w) := by
  have CW := Lib.hid (fun w => law_works w)
  by_cases hl : l.length ≤ 60
  · by_cases hm : m.length ≤ 60
    · by_cases hv : vs.length ≤ 60
      · have C1 := Lib.hid (carry_Changed l m w.heap.size A A' c c' p w hr hr' (Nat.le_refl _) (by omega) (by omega))
        go_enter Try.func3, Try.ntmps3
        go_wp2_with fail
        refine (C1.out).mono ?_
        rintro e w1 ⟨rfl, h1⟩
        have O1 := (hr.below h1).more h1.size
        have F1 := (hr'.below h1).more h1.size
        have V1 := (hr2.below h1).more h1.size
        have s1 := h1.size
        clear C1 hr hr' hr2
        have C2 := Lib.hid (law_vars l w1.heap.size A c w1 O1 (Nat.le_refl _) (by omega))
        go_wp2_with fail
        refine (C2.out).mono ?_
        rintro e w2 ⟨v2, rfl, G2, h2⟩
        obtain ⟨A3, c3, rfl⟩ := own_form G2
        have b2 := h1.trans (h2.mono s1)
        have R2 := Reads.of_own G2
        have O2 := (O1.below h2).more h2.size
        have F2 := (F1.below h2).more h2.size
        have V2 := (V1.below h2).more h2.size
        clear C2 O1 F1 V1 G2 h1 h2
        have s2 := b2.size
        have C3 := Lib.hid (law_vars m w2.heap.size A' c' w2 F2 (Nat.le_refl _) (by omega))
        go_wp2_with fail
        refine (C3.out).mono ?_
        rintro e w3 ⟨v3, rfl, G3, h3⟩
        obtain ⟨A4, c4, rfl⟩ := own_form G3
        have b3 := b2.trans (h3.mono s2)
        have P3 := (R2.below h3).more h3.size
        have R3 := Reads.of_own G3
        have O3 := (O2.below h3).more h3.size
        have F3 := (F2.below h3).more h3.size
        have V3 := (V2.below h3).more h3.size
        clear C3 O2 F2 V2 R2 G3 h3
        have C4 := Lib.hid (ref_Changed l m w3.heap.size A3 A4 c3 c4 p w3 P3 R3 (Nat.le_refl _) (by omega) (by omega))
        go_wp2_with fail
        refine (C4.out).mono ?_
        rintro e w4 ⟨rfl, h4⟩
        have b4 := b3.trans (h4.mono b3.size)
        have O4 := (O3.below h4).more h4.size
        have F4 := (F3.below h4).more h4.size
        have V4 := (V3.below h4).more h4.size
        clear C4 O3 F3 V3 P3 R3 h4
        have C5 := Lib.hid (carry_Values l m vs w4.heap.size A A' A2 c c' c2 w4 O4 F4 V4 (Nat.le_refl _) (by omega) (by omega) (by omega))
        go_wp2_with fail
        refine (C5.out).mono ?_
        rintro e w5 ⟨v5, rfl, G5, h5⟩
        obtain ⟨A5, c5, rfl⟩ := own_form G5
        obtain ⟨E5, hE5⟩ : ∃ E : Int, E = (if (valuesOf l m vs).isSome then 0 else 2) := ⟨_, rfl⟩
        rw [← hE5]
        have HE5 := Lib.hid hE5
        clear hE5
        have R5 := Reads.of_own G5
        have b5 := b4.trans (h5.mono b4.size)
        have O5 := (O4.below h5).more h5.size
        have F5 := (F4.below h5).more h5.size
        have V5 := (V4.below h5).more h5.size
        clear C5 O4 F4 V4 G5 h5
        have C6 := Lib.hid (law_vars l w5.heap.size A c w5 O5 (Nat.le_refl _) (by omega))
        go_wp2_with fail
        refine (C6.out).mono ?_
        rintro e w6 ⟨v6, rfl, G6, h6⟩
        obtain ⟨A6, c6, rfl⟩ := own_form G6
        have b6 := b5.trans (h6.mono b5.size)
        have P6 := Reads.of_own G6
        have R6 := (R5.below h6).more h6.size
        have O6 := (O5.below h6).more h6.size
        have F6 := (F5.below h6).more h6.size
        have V6 := (V5.below h6).more h6.size
        clear C6 O5 F5 V5 R5 G6 h6
        have C7 := Lib.hid (law_vars m w6.heap.size A' c' w6 F6 (Nat.le_refl _) (by omega))
        go_wp2_with fail
        refine (C7.out).mono ?_
        rintro e w7 ⟨v7, rfl, G7, h7⟩
        obtain ⟨A7, c7, rfl⟩ := own_form G7
        have b7 := b6.trans (h7.mono b6.size)
        have Q7 := Reads.of_own G7
        have P7 := (P6.below h7).more h7.size
        have R7 := (R6.below h7).more h7.size
        have O7 := (O6.below h7).more h7.size
        have F7 := (F6.below h7).more h7.size
        have V7 := (V6.below h7).more h7.size
        clear C7 O6 F6 V6 R6 P6 G7 h7
        have C8 := Lib.hid (ref_Values l m vs w7.heap.size A6 A7 A2 c6 c7 c2 w7 P7 Q7 V7 (Nat.le_refl _) (by omega) (by omega) (by omega))
        go_wp2_with fail
        refine (C8.out).mono ?_
        rintro e w8 ⟨v8, rfl, G8, h8⟩
        obtain ⟨A8, c8, rfl⟩ := own_form G8
        rw [← HE5.out]
        have b8 := b7.trans (h8.mono b7.size)
        have Q8 := Reads.of_own G8
        have R8 := (R7.below h8).more h8.size
        have O8 := (O7.below h8).more h8.size
        have F8 := (F7.below h8).more h8.size
        clear C8 O7 F7 V7 R7 P7 Q7 G8 h8
        have C9 := Lib.hid (carry_Slots l m w8.heap.size A A' c c' w8 O8 F8 (Nat.le_refl _) (by omega) (by omega))
        go_wp2_with fail
        refine (C9.out).mono ?_
        rintro e w9 ⟨v9, rfl, G9, h9⟩
        obtain ⟨A9, c9, rfl⟩ := own_form G9
        have b9 := b8.trans (h9.mono b8.size)
        have S9 := Reads.of_own G9
        have Q9 := (Q8.below h9).more h9.size
        have R9 := (R8.below h9).more h9.size
        have O9 := (O8.below h9).more h9.size
        have F9 := (F8.below h9).more h9.size
        clear C9 O8 F8 R8 Q8 G9 h9
        have C10 := Lib.hid (law_vars l w9.heap.size A c w9 O9 (Nat.le_refl _) (by omega))
        go_wp2_with fail
        refine (C10.out).mono ?_
        rintro e w10 ⟨v10, rfl, G10, h10⟩
        obtain ⟨A10, c10, rfl⟩ := own_form G10
        have b10 := b9.trans (h10.mono b9.size)
        have P10 := Reads.of_own G10
        have S10 := (S9.below h10).more h10.size
        have Q10 := (Q9.below h10).more h10.size
        have R10 := (R9.below h10).more h10.size
        have F10 := (F9.below h10).more h10.size
        clear C10 O9 F9 R9 Q9 S9 G10 h10
        have C11 := Lib.hid (law_vars m w10.heap.size A' c' w10 F10 (Nat.le_refl _) (by omega))
        go_wp2_with fail
        refine (C11.out).mono ?_
        rintro e w11 ⟨v11, rfl, G11, h11⟩
        obtain ⟨A11, c11, rfl⟩ := own_form G11
        have b11 := b10.trans (h11.mono b10.size)
        have T11 := Reads.of_own G11
        have P11 := (P10.below h11).more h11.size
        have S11 := (S10.below h11).more h11.size
        have Q11 := (Q10.below h11).more h11.size
        have R11 := (R10.below h11).more h11.size
        clear C11 F10 R10 Q10 S10 P10 G11 h11
        have C12 := Lib.hid (ref_Slots l m w11.heap.size A10 A11 c10 c11 w11 P11 T11 (Nat.le_refl _) (by omega) (by omega))
        go_wp2_with fail
        refine (C12.out).mono ?_
        rintro e w12 ⟨v12, rfl, G12, h12⟩
        obtain ⟨A12, c12, rfl⟩ := own_form G12
        have b12 := b11.trans (h12.mono b11.size)
        have T12 := Reads.of_own G12
        have S12 := (S11.below h12).more h12.size
        have Q12 := (Q11.below h12).more h12.size
        have R12 := (R11.below h12).more h12.size
        clear C12 R11 Q11 S11 P11 T11 G12 h12
        have C13 := law_ints (slotsOf l m) (slotsOf l m) w12.heap.size A9 A12 c9 c12 w12 S12 T12 (Nat.le_refl _) (by simp [slotsOf, maxLen]; omega)
        rw [decide_eq_true rfl] at C13
        have K13 := Lib.hid C13
        clear C13
        go_wp2_with fail
        refine (K13.out).mono ?_
        rintro e w13 ⟨rfl, h13⟩
        have b13 := b12.trans (h13.mono b12.size)
        have Q13 := (Q12.below h13).more h13.size
        have R13 := (R12.below h13).more h13.size
        clear K13 S12 T12 R12 Q12 h13
        have C14 := ref_Same _ _ w13.heap.size A5 A8 c5 c8 w13 R13 Q13 (Nat.le_refl _) (by have := valuesOf_len l m vs; simp [maxLen] at *; omega)
        rw [decide_eq_true rfl] at C14
        have K14 := Lib.hid C14
        clear C14
        go_wp2_with fail
        refine (K14.out).mono ?_
        rintro e w14 ⟨rfl, h14⟩
        have b14 := b13.trans (h14.mono b13.size)
        clear K14 R13 Q13 h14
        go_wp2_with fail
        refine (CW.out _).mono ?_
        rintro e w15 ⟨rfl, h15⟩
        have b15 := b14.trans (h15.mono b14.size)
        go_wp2
        go_ret
        exact ⟨rfl, b15⟩
      · have hv' : 60 < vs.length := by omega
        go_enter Try.func3, Try.ntmps3
        go_wp2_with fail
        refine (CW.out _).mono ?_
        rintro e w1 ⟨rfl, h1⟩
        go_wp2
        go_ret
        exact ⟨rfl, h1⟩
    · have hm' : 60 < m.length := by omega
      go_enter Try.func3, Try.ntmps3
      go_wp2_with fail
      refine (CW.out _).mono ?_
      rintro e w1 ⟨rfl, h1⟩
      go_wp2
      go_ret
      exact ⟨rfl, h1⟩
  · have hl' : 60 < l.length := by omega
    go_enter Try.func3, Try.ntmps3
    go_wp2_with fail
    refine (CW.out _).mono ?_
    rintro e w1 ⟨rfl, h1⟩
    go_wp2
    go_ret
    exact ⟨rfl, h1⟩
end Go.Proofs.Ytecplbjggbelbaa
