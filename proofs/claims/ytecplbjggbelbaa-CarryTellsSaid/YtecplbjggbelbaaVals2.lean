/- The contract of the reference's Values. -/
import Derived.Test.YtecplbjggbelbaaVals
namespace Go.Proofs.Ytecplbjggbelbaa
open Go.RowKit Go.Sort

set_option maxHeartbeats 2000000 in
theorem ref_Values (l m : List Va) (vs : List Av) (B : Nat) (A A' A2 : Option Addr) (c c' c2 : Nat) (w : World) (hr : Reads w B 5 A l.length (vcells l)) (hr' : Reads w B 5 A' m.length (vcells m)) (hr2 : Reads w B 2 A2 vs.length (acells vs)) (hB : B ≤ w.heap.size) (hm : l.length ≤ 65536) (hm' : m.length ≤ 65536) (hm2 : vs.length ≤ 65536) :
    Calls Try.prog 14 #[.slice A l.length c, .slice A' m.length c', .slice A2 vs.length c2] w (ValsPost (valuesOf l m vs) w) := by
  by_cases hlen : vs.length = l.length
  · have hne : ((vs.length : Int) != (l.length : Int)) = false := by simp [hlen]
    have hl1 : vs.length ≤ l.length := by omega
    have hl2 : l.length ≤ vs.length := by omega
    have HV := Lib.hid (by unfold valuesOf; simp [hlen] : valuesOf l m vs = if okAll l vs = true then valsFrom vs m (slotsOf l m) else none)
    clear hlen
    go_enter Try.func14, Try.ntmps14
    go_wp2
    go_loopw [8] (fun i wr => ∃ k : Nat, k ≤ vs.length ∧ i = .int .i64 k ∧ Hid (okAll l vs = okAll (l.drop k) (vs.drop k)) ∧ Below w.heap.size w wr) (fun i _ => vs.length - (intOf i).toNat)
    case atStart => exact ⟨0, Nat.zero_le _, rfl, rfl, Below.refl _ _⟩
    case round =>
      obtain ⟨k, hk, rfl, H, hbw⟩ := hrel
      have hsz := hbw.size
      by_cases hlt : k < vs.length
      · obtain ⟨b, o, a, rfl, hb, ha, c0, c1⟩ := av_at (hr2.below (hbw.mono hB)) hlt
        obtain ⟨b', o', v, rfl, hb', hv, d0, d1, d2, d3, d4⟩ := var_at (hr.below (hbw.mono hB)) (k := k) (by omega)
        have hst := H.out.trans (ok_step hv ha)
        have hi1 : (k : Int) < (l.length : Int) := by omega
        have hb1' : b' < wr.heap.size := by omega
        have hi0 : (k : Int) < (vs.length : Int) := by omega
        have cQ : ∀ d os, Calls Try.prog 29 #[.agg #[.int .i64 a.t, .int .i64 a.n]] (grow (redrawn wr d) os) fun e w'' => e = .returned (.int .i64 (chk a.t a.n)) ∧ ∃ p : Regrown, w'' = grow (redrawn wr p.d) p.os := fun d os => Calls.regrown_of (ref_Check _ _ _)
        have k0 := cell_regrown c0
        have k1 := cell_regrown c1
        have k2 := cell_regrown d1
        have CQ := Lib.hid cQ
        clear hv ha H hr hr' hr2 cQ c0 c1 d0 d1 d2 d3 d4
        by_cases q1 : chk a.t a.n = 0
        · by_cases q2 : a.t = v.t
          · have HF := Lib.hid (hst.trans (by rw [decide_eq_true q1, decide_eq_true q2]; rfl) : _ = okAll (l.drop (k + 1)) (vs.drop (k + 1)))
            have t1 : (chk a.t a.n != 0) = false := by simp [q1]
            have t2 : (a.t != v.t) = false := by simp [q2]
            clear hst q1 q2
            go_wp2
            refine wp_region_below (by kernel_rfl) (by kernel_rfl) ?_
            repeat (any_goals (first | go_big_quiet_step (exact CQ.out _ _) | quiet_step (exact CQ.out _ _)))
            refine wpQuiet_nil ?_
            intro w2 hb2
            have hbw2 : Below w.heap.size w w2 := hbw.trans (hb2.mono hsz)
            clear k0 k1 k2
            go_wp2
            go_roundw
            case rel => exact ⟨k + 1, by omega, by go_num, HF.out, hbw2⟩
            case measure => simp [intOf] <;> omega
          · have HF := Lib.hid (hst.trans (by rw [decide_eq_false q2]; simp) : _ = false)
            have t1 : (chk a.t a.n != 0) = false := by simp [q1]
            have t2 : (a.t != v.t) = true := by simp [q2]
            clear hst q1 q2
            go_wp2
            refine wp_region_below (by kernel_rfl) (by kernel_rfl) ?_
            repeat (any_goals (first | go_big_quiet_step (exact CQ.out _ _) | quiet_step (exact CQ.out _ _)))
            refine wpQuiet_nil ?_
            intro w2 hb2
            have hbw2 : Below w.heap.size w w2 := hbw.trans (hb2.mono hsz)
            clear k0 k1 k2
            go_wp2
            go_ret2
            exact ValsPost.no (by rw [HV.out, HF.out]; rfl) hbw2
        · have HF := Lib.hid (hst.trans (by rw [decide_eq_false q1]; simp) : _ = false)
          have t1 : (chk a.t a.n != 0) = true := by simp [q1]
          clear hst q1
          go_wp2
          refine wp_region_below (by kernel_rfl) (by kernel_rfl) ?_
          repeat (any_goals (first | go_big_quiet_step (exact CQ.out _ _) | quiet_step (exact CQ.out _ _)))
          refine wpQuiet_nil ?_
          intro w2 hb2
          have hbw2 : Below w.heap.size w w2 := hbw.trans (hb2.mono hsz)
          clear k0 k1 k2
          go_wp2
          go_ret2
          exact ValsPost.no (by rw [HV.out, HF.out]; rfl) hbw2
      · have HK := Lib.hid (H.out.trans (by rw [List.drop_of_length_le (by omega : l.length ≤ k)]; rfl) : _ = true)
        have HV2 := Lib.hid (by rw [HV.out, HK.out]; rfl : valuesOf l m vs = valsFrom vs m (slotsOf l m))
        have CS0 := ref_Slots l m B A A' c c' wr (hr.below (hbw.mono hB)) (hr'.below (hbw.mono hB)) (by omega) (by omega) (by omega)
        have CS := Lib.hid CS0
        have HR := Lib.hid (fun z hz => slots_rng (l := l) (m := m) (z := z) hz)
        have hsl := slots_len l m
        have hrm := hr'.below (hbw.mono hB)
        have hr2w := hr2.below (hbw.mono hB)
        have hBw : B ≤ wr.heap.size := by omega
        clear CS0 H HV HK hr hr' hr2
        generalize slotsOf l m = ss at *
        have hsl1 : ss.length ≤ m.length := by omega
        have hsl2 : m.length ≤ ss.length := by omega
        clear hsl
        obtain ⟨i0, hi, hz0, hz1, hz2⟩ := info_parts info_val
        go_wp2_with (go_at_call 17; refine (CS.out).mono ?_; rintro e w1 ⟨v1, rfl, hown1, hb1⟩; obtain ⟨A1, c1, rfl⟩ := own_form hown1)
        have hr1 := Reads.of_own hown1
        have hs1 := hb1.size
        have hrm1 := hrm.below (hb1.mono hBw)
        have hr21 := hr2w.below (hb1.mono hBw)
        have hb0 : Below w.heap.size w w1 := hbw.trans (hb1.mono hsz)
        clear hrm hr2w hown1
        go_loopw [10, 11] (fun out i wr => ∃ k : Nat, k ≤ m.length ∧ i = .int .i64 k ∧ ∃ acc : List Av, acc.length = k ∧ Hid (valsFrom vs m ss = (valsFrom vs (m.drop k) (ss.drop k)).map (acc ++ ·)) ∧ wr.ownsRow w1.heap.size 44 2 out acc.length (acells acc) ∧ Below w1.heap.size w1 wr) (fun _ i _ => m.length - (intOf i).toNat)
        case atStart => exact ⟨0, Nat.zero_le _, rfl, [], rfl, vals_start vs m ss, World.ownsRow_nil _ _ _ _, Below.refl _ _⟩
        case round =>
          obtain ⟨k, hk, rfl, acc, hac, H, hown, hbw1⟩ := hrel
          have hk0 : acc.length ≤ k := by omega
          have hk1 : k ≤ acc.length := by omega
          have hsz1 := hbw1.size
          by_cases hlt : k < m.length
          · obtain ⟨b1, o1, z, rfl, hbb, hz, cz⟩ := icell (hr1.below hbw1) (k := k) (by omega)
            obtain ⟨hzl, hzh⟩ := HR.out z (List.mem_of_getElem? hz)
            obtain ⟨b', o', x, rfl, hb', hv, d0, d1, d2, d3, d4⟩ := var_at (hrm1.below (hbw1.mono (by omega))) hlt
            have hst := H.out.trans (congrArg _ (vals_step (vals := vs) hv hz))
            have hi1 : (k : Int) < (m.length : Int) := by omega
            have hi2 : (k : Int) < (ss.length : Int) := by omega
            have CD0 := ref_Default x.t
            by_cases q1 : chk x.t 0 = 0
            · rw [if_pos q1, vals_grow] at hst
              rw [show ofV x.t 0 = .agg #[.int .i64 x.t, .int .i64 0] from if_pos q1, q1] at CD0
              have CD := Lib.hid CD0
              clear CD0 q1 H hv hz hac
              by_cases q2 : 0 ≤ z
              · obtain ⟨n, rfl⟩ := Int.eq_ofNat_of_zero_le q2
                have hn : n < vs.length := by omega
                have hi3 : (n : Int) < (vs.length : Int) := by omega
                obtain ⟨b, o, u, rfl, hb, hu, c0, c1'⟩ := av_at (hr21.below (hbw1.mono (by omega))) hn
                have hval : valOf vs x.t (n : Int) = u := by simp [valOf, hu]
                rw [hval] at hst
                have HF := Lib.hid hst
                have HU := Lib.hid (acells_snoc acc u)
                clear hst hval hu hr1 hr21 hrm1
                go_wp2_with (first | (go_at_call 30; refine (CD.out _).mono ?_; rintro e w2 ⟨rfl, hb2⟩; have hown2 := own_below hown hb2; have hy2 := hb2.size; have gz := (hb2.cell (p := ⟨b1, o1 + k, none⟩) (World.block_lt_of_cell? _ _ cz)).trans cz; have hb1l : b1 < w2.heap.size := World.block_lt_of_cell? _ _ gz; have hbw2 := hbw1.trans (hb2.mono hsz1); have g0 := (hb2.cell (p := ⟨b, o + n * 2, none⟩) (World.block_lt_of_cell? _ _ c0)).trans c0; have g1 := (hb2.cell (p := ⟨b, o + n * 2 + 1, none⟩) (World.block_lt_of_cell? _ _ c1')).trans c1'; have hbl : b < w2.heap.size := World.block_lt_of_cell? _ _ g0) | (at_builtin; go_must (refine wpList_append_own _ rfl _ _ 23 rfl w1.heap.size 44 i0 (.agg #[.int .i64 0, .int .i64 0]) 2 16 Try.underlying23 hi hz0 hz1 hz2 rfl (by decide) _ _ _ rfl ((hown2.alloc _).alloc _) ⟨w2.heap.size + 1, 0, none⟩ 1 1 [.int .i64 u.t, .int .i64 u.n] rfl rfl (cell_new2 _ _ _ _) (by simp [Value.oneCell']) (by unfold maxLen; omega) (by omega) (by simp; omega) ?_); intro v3 w3 hown3 hg3 hn3; go_must (have X : Hid (w3.ownsRow w1.heap.size 44 2 v3 (acc ++ [u]).length (acells (acc ++ [u])) ∧ Below w1.heap.size w1 w3) := ⟨by rw [HU.out]; simpa using hown3, Below.grown ((hbw2.alloc (by omega) _).alloc (by simp; omega) _) hg3 (by simp; omega) (fun j hj => by have := (hown2.lt _ hj).1; omega)⟩); clear hown3 hg3 hn3))
                go_roundw
                case rel => exact ⟨k + 1, by omega, by go_num, acc ++ [u], by simp; omega, HF.out, X.out.1, X.out.2⟩
                case measure => simp [intOf] <;> omega
              · obtain ⟨u, hu⟩ : ∃ u : Av, u = ⟨x.t, 0⟩ := ⟨_, rfl⟩
                have hval : valOf vs x.t z = u := by rw [hu, valOf, if_neg q2]
                have hut : x.t = u.t := by rw [hu]
                have hun : (0 : Int) = u.n := by rw [hu]
                rw [hval] at hst
                have HF := Lib.hid hst
                have HU0 := acells_snoc acc u
                rw [← hut, ← hun] at HU0
                have HU := Lib.hid HU0
                clear hst hval hu hut hun HU0 hr1 hr21 hrm1
                go_wp2_with (first | (go_at_call 30; refine (CD.out _).mono ?_; rintro e w2 ⟨rfl, hb2⟩; have hown2 := own_below hown hb2; have hy2 := hb2.size; have gz := (hb2.cell (p := ⟨b1, o1 + k, none⟩) (World.block_lt_of_cell? _ _ cz)).trans cz; have hb1l : b1 < w2.heap.size := World.block_lt_of_cell? _ _ gz; have hbw2 := hbw1.trans (hb2.mono hsz1)) | (at_builtin; go_must (refine wpList_append_own _ rfl _ _ 23 rfl w1.heap.size 44 i0 (.agg #[.int .i64 0, .int .i64 0]) 2 16 Try.underlying23 hi hz0 hz1 hz2 rfl (by decide) _ _ _ rfl ((hown2.alloc _).alloc _) ⟨w2.heap.size + 1, 0, none⟩ 1 1 [.int .i64 x.t, .int .i64 0] rfl rfl (cell_new2 _ _ _ _) (by simp [Value.oneCell']) (by unfold maxLen; omega) (by omega) (by simp; omega) ?_); intro v3 w3 hown3 hg3 hn3; go_must (have X : Hid (w3.ownsRow w1.heap.size 44 2 v3 (acc ++ [u]).length (acells (acc ++ [u])) ∧ Below w1.heap.size w1 w3) := ⟨by rw [HU.out]; simpa using hown3, Below.grown ((hbw2.alloc (by omega) _).alloc (by simp; omega) _) hg3 (by simp; omega) (fun j hj => by have := (hown2.lt _ hj).1; omega)⟩); clear hown3 hg3 hn3))
                go_roundw
                case rel => exact ⟨k + 1, by omega, by go_num, acc ++ [u], by simp; omega, HF.out, X.out.1, X.out.2⟩
                case measure => simp [intOf] <;> omega
            · rw [if_neg q1] at hst
              rw [chk_two q1] at CD0
              rw [show ofV x.t 0 = .agg #[.int .i64 0, .int .i64 0] from if_neg q1] at CD0
              have CD := Lib.hid CD0
              have HF := Lib.hid (HV2.out.trans hst)
              clear CD0 q1 H hv hz hst hr1 hr21 hrm1
              go_wp2_with (go_at_call 30; refine (CD.out _).mono ?_; rintro e w2 ⟨rfl, hb2⟩; have hbw2 := hbw1.trans (hb2.mono hsz1))
              go_ret2
              exact ValsPost.no HF.out ((hb0.trans (hbw2.mono (by omega))).alloc (by have := hb0.size; have := hbw2.size; omega) _)
          · have hkm : m.length ≤ k := by omega
            have HF := Lib.hid (HV2.out.trans (H.out.trans (by rw [List.drop_of_length_le hkm]; simp [valsFrom] : _ = some acc)))
            clear H hac hr1 hr21 hrm1
            go_wp2
            go_ret2
            exact ValsPost.yes HF.out (own_base hown (by omega)) (hb0.trans (hbw1.mono (by omega)))
  · have hne : ((vs.length : Int) != (l.length : Int)) = true := by rw [bne_iff_ne]; omega
    have HV := Lib.hid (by unfold valuesOf; rw [if_neg (fun h => hlen h.1)] : valuesOf l m vs = none)
    clear hlen
    go_enter Try.func14, Try.ntmps14
    go_wp2
    go_ret2
    exact ValsPost.no HV.out (Below.refl _ _)
end Go.Proofs.Ytecplbjggbelbaa
