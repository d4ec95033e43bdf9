/- The contract of carry.Values. -/
import Derived.Test.YtecplbjggbelbaaChg
namespace Go.Proofs.Ytecplbjggbelbaa
open Go.RowKit Go.Sort

def okAll : List Va → List Av → Bool
  | v :: r, a :: s => decide (chk a.t a.n = 0) && decide (a.t = v.t) && okAll r s
  | _, _ => true
def valOf (vals : List Av) (t s : Int) : Av := if 0 ≤ s then (vals[s.toNat]?).getD ⟨t, 0⟩ else ⟨t, 0⟩
def valsFrom (vals : List Av) : List Va → List Int → Option (List Av)
  | v :: r, s :: ss => if chk v.t 0 = 0 then (valsFrom vals r ss).map (valOf vals v.t s :: ·) else none
  | _, _ => some []
def valuesOf (old new : List Va) (vals : List Av) : Option (List Av) :=
  if vals.length = old.length ∧ okAll old vals = true then valsFrom vals new (slotsOf old new) else none
def ValsPost (r : Option (List Av)) (w : World) (e : Ending) (w' : World) : Prop :=
  ∃ v, e = .returned (.tuple #[v, .int .i64 (if r.isSome then 0 else 2)]) ∧ w'.ownsRow w.heap.size 44 2 v (r.getD []).length (acells (r.getD [])) ∧ Below w.heap.size w w'
theorem ValsPost.no {r : Option (List Av)} {w w' : World} (h : r = none) (hb : Below w.heap.size w w') : ValsPost r w (.returned (.tuple #[.slice none 0 0, .int .i64 2])) w' :=
  ⟨_, by rw [h]; rfl, by rw [h]; exact World.ownsRow_nil _ _ _ _, hb⟩
theorem ValsPost.yes {r : Option (List Av)} {w w' : World} {v : Value} {l : List Av} (h : r = some l) (ho : w'.ownsRow w.heap.size 44 2 v l.length (acells l)) (hb : Below w.heap.size w w') : ValsPost r w (.returned (.tuple #[v, .int .i64 0])) w' :=
  ⟨v, by rw [h]; rfl, by rw [h]; exact ho, hb⟩

theorem ok_step {old : List Va} {vals : List Av} {k : Nat} {v : Va} {a : Av} (hv : old[k]? = some v) (ha : vals[k]? = some a) :
    okAll (old.drop k) (vals.drop k) = (decide (chk a.t a.n = 0) && decide (a.t = v.t) && okAll (old.drop (k + 1)) (vals.drop (k + 1))) := by
  obtain ⟨h1, rfl⟩ := List.getElem?_eq_some_iff.1 hv
  obtain ⟨h2, rfl⟩ := List.getElem?_eq_some_iff.1 ha
  rw [List.drop_eq_getElem_cons h1, List.drop_eq_getElem_cons h2, okAll]
theorem vals_step {vals : List Av} {new : List Va} {ss : List Int} {k : Nat} {v : Va} {s : Int} (hv : new[k]? = some v) (hs : ss[k]? = some s) :
    valsFrom vals (new.drop k) (ss.drop k) = if chk v.t 0 = 0 then (valsFrom vals (new.drop (k + 1)) (ss.drop (k + 1))).map (valOf vals v.t s :: ·) else none := by
  obtain ⟨h1, rfl⟩ := List.getElem?_eq_some_iff.1 hv
  obtain ⟨h2, rfl⟩ := List.getElem?_eq_some_iff.1 hs
  rw [List.drop_eq_getElem_cons h1, List.drop_eq_getElem_cons h2, valsFrom]
theorem vals_start (vals : List Av) (m : List Va) (ss : List Int) : valsFrom vals m ss = (valsFrom vals (m.drop 0) (ss.drop 0)).map ([] ++ ·) := by
  rw [List.drop_zero, List.drop_zero]
  cases valsFrom vals m ss <;> simp
theorem vals_grow {o : Option (List Av)} {acc : List Av} {a : Av} : (o.map (a :: ·)).map (acc ++ ·) = o.map ((acc ++ [a]) ++ ·) := by
  cases o <;> simp
theorem keyFrom_rng {nm : ByteArray} {t : Int} : ∀ {l : List Va} {i : Nat} {z : Int}, keyFrom nm t i l = some z → (i : Int) ≤ z ∧ z < i + l.length
  | [], _, _, h => by simp [keyFrom] at h
  | v :: r, i, z, h => by
    unfold keyFrom at h
    split at h
    · cases h; simp; omega
    · have := keyFrom_rng h; simp; omega
theorem slots_rng {l m : List Va} {z : Int} (h : z ∈ slotsOf l m) : -1 ≤ z ∧ z < l.length := by
  unfold slotsOf at h
  obtain ⟨v, _, rfl⟩ := List.mem_map.1 h
  cases hk : keyFrom v.nm v.t 0 l with
  | none => simp; omega
  | some z => have := keyFrom_rng hk; simp; omega
theorem slots_len (l m : List Va) : (slotsOf l m).length = m.length := by simp [slotsOf]
theorem info_val : (Try.prog.info? 44).map (fun i => (i.zero, i.size, i.bytes)) = some (some (.agg #[.int .i64 0, .int .i64 0]), 2, 16) := by kernel_rfl
theorem acells_snoc (l : List Av) (a : Av) : acells (l ++ [a]) = acells l ++ [.int .i64 a.t, .int .i64 a.n] := by simp [acells, Av.cells]

set_option maxHeartbeats 2000000 in
theorem carry_Values (l m : List Va) (vs : List Av) (B : Nat) (A A' A2 : Option Addr) (c c' c2 : Nat) (w : World) (hr : Reads w B 5 A l.length (vcells l)) (hr' : Reads w B 5 A' m.length (vcells m)) (hr2 : Reads w B 2 A2 vs.length (acells vs)) (hB : B ≤ w.heap.size) (hm : l.length ≤ 65536) (hm' : m.length ≤ 65536) (hm2 : vs.length ≤ 65536) :
    Calls Try.prog 13 #[.slice A l.length c, .slice A' m.length c', .slice A2 vs.length c2] w (ValsPost (valuesOf l m vs) w) := by
  by_cases hlen : vs.length = l.length
  · have hne : ((vs.length : Int) != (l.length : Int)) = false := by simp [hlen]
    have hl1 : vs.length ≤ l.length := by omega
    have hl2 : l.length ≤ vs.length := by omega
    have HV := Lib.hid (by unfold valuesOf; simp [hlen] : valuesOf l m vs = if okAll l vs = true then valsFrom vs m (slotsOf l m) else none)
    clear hlen
    go_enter Try.func13, Try.ntmps13
    go_wp2
    go_loopw [22] (fun i wr => ∃ k : Nat, k ≤ vs.length ∧ i = .int .i64 k ∧ Hid (okAll l vs = okAll (l.drop k) (vs.drop k)) ∧ Below w.heap.size w wr) (fun i _ => vs.length - (intOf i).toNat)
    case atStart => exact ⟨0, Nat.zero_le _, rfl, rfl, Below.refl _ _⟩
    case round =>
      obtain ⟨k, hk, rfl, H, hbw⟩ := hrel
      have hsz := hbw.size
      by_cases hlt : k < vs.length
      · obtain ⟨b, o, a, rfl, hb, ha, c0, c1⟩ := av_at (hr2.below (hbw.mono hB)) hlt
        obtain ⟨b', o', v, rfl, hb', hv, d0, d1, d2, d3, d4⟩ := var_at (hr.below (hbw.mono hB)) (k := k) (by omega)
        have hst := H.out.trans (ok_step hv ha)
        have hi1 : (k : Int) < (l.length : Int) := by omega
        have hb1' : b' < wr.heap.size := by omega
        obtain ⟨W, hW⟩ : ∃ W, W = wr.alloc (.cells #[.int .i64 a.t, .int .i64 a.n] 44) := ⟨_, rfl⟩
        have cQ : ∀ d os, Calls Try.prog 22 #[.agg #[.int .i64 a.t, .int .i64 a.n]] (grow (redrawn W d) os) fun e w'' => e = .returned (.int .i64 (chk a.t a.n)) ∧ ∃ p : Regrown, w'' = grow (redrawn W p.d) p.os := fun d os => Calls.regrown_of (value_Check _ _ _)
        have x0 : W.cell? ⟨wr.heap.size, 0, none⟩ = some (.int .i64 a.t) := by rw [hW]; go_simp
        have x1 : W.cell? ⟨wr.heap.size, 1, none⟩ = some (.int .i64 a.n) := by rw [hW]; go_simp
        have y1 : W.cell? ⟨b', o' + k * 5 + 1, none⟩ = some (.int .i64 v.t) := by rw [hW, World.cell?_alloc_lt _ _ _ hb1']; exact d1
        have k0 := cell_regrown x0
        have k1 := cell_regrown x1
        have k2 := cell_regrown y1
        have CQ := Lib.hid cQ
        have hbW : Below w.heap.size w W := by rw [hW]; exact hbw.alloc hsz _
        have HW := Lib.hid hW
        clear hv ha H hr hr' cQ x0 x1 y1 d0 d1 d2 d3 d4 hW
        by_cases q1 : chk a.t a.n = 0
        · by_cases q2 : a.t = v.t
          · have HF := Lib.hid (hst.trans (by rw [decide_eq_true q1, decide_eq_true q2]; rfl) : _ = okAll (l.drop (k + 1)) (vs.drop (k + 1)))
            have t1 : (chk a.t a.n != 0) = false := by simp [q1]
            have t2 : (a.t != v.t) = false := by simp [q2]
            clear hst q1 q2
            go_wp2
            rw [← HW.out]
            refine wp_region_below (by kernel_rfl) (by kernel_rfl) ?_
            repeat (any_goals (first | go_big_quiet_step (exact CQ.out _ _) | quiet_step (exact CQ.out _ _)))
            refine wpQuiet_nil ?_
            intro w2 hb2
            have hbw2 : Below w.heap.size w w2 := hbW.trans (hb2.mono hbW.size)
            clear k0 k1 k2
            go_wp2
            go_roundw
            case rel => exact ⟨k + 1, by omega, by go_num, HF.out, hbw2⟩
            case measure => simp [intOf] <;> omega
          · have HF := Lib.hid (hst.trans (by rw [decide_eq_false q2]; simp) : _ = false)
            have t1 : (chk a.t a.n != 0) = false := by simp [q1]
            have t2 : (a.t != v.t) = true := by simp [q2]
            clear hst q1 q2
            go_wp2
            rw [← HW.out]
            refine wp_region_below (by kernel_rfl) (by kernel_rfl) ?_
            repeat (any_goals (first | go_big_quiet_step (exact CQ.out _ _) | quiet_step (exact CQ.out _ _)))
            refine wpQuiet_nil ?_
            intro w2 hb2
            have hbw2 : Below w.heap.size w w2 := hbW.trans (hb2.mono hbW.size)
            clear k0 k1 k2
            go_wp2
            go_ret2
            exact ValsPost.no (by rw [HV.out, HF.out]; rfl) hbw2
        · have HF := Lib.hid (hst.trans (by rw [decide_eq_false q1]; simp) : _ = false)
          have t1 : (chk a.t a.n != 0) = true := by simp [q1]
          clear hst q1
          go_wp2
          rw [← HW.out]
          refine wp_region_below (by kernel_rfl) (by kernel_rfl) ?_
          repeat (any_goals (first | go_big_quiet_step (exact CQ.out _ _) | quiet_step (exact CQ.out _ _)))
          refine wpQuiet_nil ?_
          intro w2 hb2
          have hbw2 : Below w.heap.size w w2 := hbW.trans (hb2.mono hbW.size)
          clear k0 k1 k2
          go_wp2
          go_ret2
          exact ValsPost.no (by rw [HV.out, HF.out]; rfl) hbw2
      · have HK := Lib.hid (H.out.trans (by rw [List.drop_of_length_le (by omega : l.length ≤ k)]; rfl) : _ = true)
        have HV2 := Lib.hid (by rw [HV.out, HK.out]; rfl : valuesOf l m vs = valsFrom vs m (slotsOf l m))
        have CS0 := carry_Slots l m B A A' c c' wr (hr.below (hbw.mono hB)) (hr'.below (hbw.mono hB)) (by omega) (by omega) (by omega)
        have CS := Lib.hid CS0
        have HR := Lib.hid (fun z hz => slots_rng (l := l) (m := m) (z := z) hz)
        have hsl := slots_len l m
        have hrm := hr'.below (hbw.mono hB)
        have hr2w := hr2.below (hbw.mono hB)
        have hBw : B ≤ wr.heap.size := by omega
        clear CS0 H HV HK hr hr' hr2
        generalize slotsOf l m = ss at *
        have hsl1 : ss.length ≤ m.length := by omega
        have hsl2 : m.length ≤ ss.length := by omega
        clear hsl
        obtain ⟨i0, hi, hz0, hz1, hz2⟩ := info_parts info_val
        go_wp2_with (go_at_call 16; refine (CS.out).mono ?_; rintro e w1 ⟨v1, rfl, hown1, hb1⟩; obtain ⟨A1, c1, rfl⟩ := own_form hown1)
        have hr1 := Reads.of_own hown1
        have hs1 := hb1.size
        have hrm1 := hrm.below (hb1.mono hBw)
        have hr21 := hr2w.below (hb1.mono hBw)
        have hb0 : Below w.heap.size w w1 := hbw.trans (hb1.mono hsz)
        clear hrm hr2w hown1
        go_loopw [10, 45] (fun out i wr => ∃ k : Nat, k ≤ m.length ∧ i = .int .i64 k ∧ ∃ acc : List Av, acc.length = k ∧ Hid (valsFrom vs m ss = (valsFrom vs (m.drop k) (ss.drop k)).map (acc ++ ·)) ∧ wr.ownsRow w1.heap.size 44 2 out acc.length (acells acc) ∧ Below w1.heap.size w1 wr) (fun _ i _ => m.length - (intOf i).toNat)
        case atStart => exact ⟨0, Nat.zero_le _, rfl, [], rfl, vals_start vs m ss, World.ownsRow_nil _ _ _ _, Below.refl _ _⟩
        case round =>
          obtain ⟨k, hk, rfl, acc, hac, H, hown, hbw1⟩ := hrel
          have hk0 : acc.length ≤ k := by omega
          have hk1 : k ≤ acc.length := by omega
          have hsz1 := hbw1.size
          by_cases hlt : k < m.length
          · obtain ⟨b1, o1, z, rfl, hbb, hz, cz⟩ := icell (hr1.below hbw1) (k := k) (by omega)
            obtain ⟨hzl, hzh⟩ := HR.out z (List.mem_of_getElem? hz)
            obtain ⟨b', o', x, rfl, hb', hv, d0, d1, d2, d3, d4⟩ := var_at (hrm1.below (hbw1.mono (by omega))) hlt
            have hst := H.out.trans (congrArg _ (vals_step (vals := vs) hv hz))
            have hi1 : (k : Int) < (m.length : Int) := by omega
            have hi2 : (k : Int) < (ss.length : Int) := by omega
            have CD0 := value_Default x.t
            by_cases q1 : chk x.t 0 = 0
            · rw [if_pos q1, vals_grow] at hst
              rw [show ofV x.t 0 = .agg #[.int .i64 x.t, .int .i64 0] from if_pos q1, q1] at CD0
              have CD := Lib.hid CD0
              clear CD0 q1 H hv hz hac
              by_cases q2 : 0 ≤ z
              · obtain ⟨n, rfl⟩ := Int.eq_ofNat_of_zero_le q2
                have hn : n < vs.length := by omega
                have hi3 : (n : Int) < (vs.length : Int) := by omega
                obtain ⟨b, o, u, rfl, hb, hu, c0, c1'⟩ := av_at (hr21.below (hbw1.mono (by omega))) hn
                have hval : valOf vs x.t (n : Int) = u := by simp [valOf, hu]
                rw [hval] at hst
                have HF := Lib.hid hst
                have HU := Lib.hid (acells_snoc acc u)
                clear hst hval hu hr1 hr21 hrm1
                go_wp2_with (first | (go_at_call 21; refine (CD.out _).mono ?_; rintro e w2 ⟨rfl, hb2⟩; have hown2 := own_below hown hb2; have hy2 := hb2.size; have hbw2 := hbw1.trans (hb2.mono hsz1); have g0 := (hb2.cell (p := ⟨b, o + n * 2, none⟩) (World.block_lt_of_cell? _ _ c0)).trans c0; have g1 := (hb2.cell (p := ⟨b, o + n * 2 + 1, none⟩) (World.block_lt_of_cell? _ _ c1')).trans c1'; have hbl : b < w2.heap.size := World.block_lt_of_cell? _ _ g0) | (at_builtin; go_must (refine wpList_append_own _ rfl _ _ 23 rfl w1.heap.size 44 i0 (.agg #[.int .i64 0, .int .i64 0]) 2 16 Try.underlying23 hi hz0 hz1 hz2 rfl (by decide) _ _ _ rfl ((hown2.alloc _).alloc _) ⟨w2.heap.size + 1, 0, none⟩ 1 1 [.int .i64 u.t, .int .i64 u.n] rfl rfl (cell_new2 _ _ _ _) (by simp [Value.oneCell']) (by unfold maxLen; omega) (by omega) (by simp; omega) ?_); intro v3 w3 hown3 hg3 hn3; go_must (have X : Hid (w3.ownsRow w1.heap.size 44 2 v3 (acc ++ [u]).length (acells (acc ++ [u])) ∧ Below w1.heap.size w1 w3) := ⟨by rw [HU.out]; simpa using hown3, Below.grown ((hbw2.alloc (by omega) _).alloc (by simp; omega) _) hg3 (by simp; omega) (fun j hj => by have := (hown2.lt _ hj).1; omega)⟩); clear hown3 hg3 hn3))
                go_roundw
                case rel => exact ⟨k + 1, by omega, by go_num, acc ++ [u], by simp; omega, HF.out, X.out.1, X.out.2⟩
                case measure => simp [intOf] <;> omega
              · obtain ⟨u, hu⟩ : ∃ u : Av, u = ⟨x.t, 0⟩ := ⟨_, rfl⟩
                have hval : valOf vs x.t z = u := by rw [hu, valOf, if_neg q2]
                have hut : x.t = u.t := by rw [hu]
                have hun : (0 : Int) = u.n := by rw [hu]
                rw [hval] at hst
                have HF := Lib.hid hst
                have HU0 := acells_snoc acc u
                rw [← hut, ← hun] at HU0
                have HU := Lib.hid HU0
                clear hst hval hu hut hun HU0 hr1 hr21 hrm1
                go_wp2_with (first | (go_at_call 21; refine (CD.out _).mono ?_; rintro e w2 ⟨rfl, hb2⟩; have hown2 := own_below hown hb2; have hy2 := hb2.size; have hbw2 := hbw1.trans (hb2.mono hsz1)) | (at_builtin; go_must (refine wpList_append_own _ rfl _ _ 23 rfl w1.heap.size 44 i0 (.agg #[.int .i64 0, .int .i64 0]) 2 16 Try.underlying23 hi hz0 hz1 hz2 rfl (by decide) _ _ _ rfl ((hown2.alloc _).alloc _) ⟨w2.heap.size + 1, 0, none⟩ 1 1 [.int .i64 x.t, .int .i64 0] rfl rfl (cell_new2 _ _ _ _) (by simp [Value.oneCell']) (by unfold maxLen; omega) (by omega) (by simp; omega) ?_); intro v3 w3 hown3 hg3 hn3; go_must (have X : Hid (w3.ownsRow w1.heap.size 44 2 v3 (acc ++ [u]).length (acells (acc ++ [u])) ∧ Below w1.heap.size w1 w3) := ⟨by rw [HU.out]; simpa using hown3, Below.grown ((hbw2.alloc (by omega) _).alloc (by simp; omega) _) hg3 (by simp; omega) (fun j hj => by have := (hown2.lt _ hj).1; omega)⟩); clear hown3 hg3 hn3))
                go_roundw
                case rel => exact ⟨k + 1, by omega, by go_num, acc ++ [u], by simp; omega, HF.out, X.out.1, X.out.2⟩
                case measure => simp [intOf] <;> omega
            · rw [if_neg q1] at hst
              rw [chk_two q1] at CD0
              rw [show ofV x.t 0 = .agg #[.int .i64 0, .int .i64 0] from if_neg q1] at CD0
              have CD := Lib.hid CD0
              have HF := Lib.hid (HV2.out.trans hst)
              clear CD0 q1 H hv hz hst hr1 hr21 hrm1
              go_wp2_with (go_at_call 21; refine (CD.out _).mono ?_; rintro e w2 ⟨rfl, hb2⟩; have hbw2 := hbw1.trans (hb2.mono hsz1))
              go_ret2
              exact ValsPost.no HF.out ((hb0.trans (hbw2.mono (by omega))).alloc (by have := hb0.size; have := hbw2.size; omega) _)
          · have hkm : m.length ≤ k := by omega
            have HF := Lib.hid (HV2.out.trans (H.out.trans (by rw [List.drop_of_length_le hkm]; simp [valsFrom] : _ = some acc)))
            clear H hac hr1 hr21 hrm1
            go_wp2
            go_ret2
            exact ValsPost.yes HF.out (own_base hown (by omega)) (hb0.trans (hbw1.mono (by omega)))
  · have hne : ((vs.length : Int) != (l.length : Int)) = true := by rw [bne_iff_ne]; omega
    have HV := Lib.hid (by unfold valuesOf; rw [if_neg (fun h => hlen h.1)] : valuesOf l m vs = none)
    clear hlen
    go_enter Try.func13, Try.ntmps13
    go_wp2
    go_ret2
    exact ValsPost.no HV.out (Below.refl _ _)
end Go.Proofs.Ytecplbjggbelbaa
