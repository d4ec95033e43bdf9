/- The contract of the reference's Changed. -/
import Derived.Test.YtecplbjggbelbaaChg
namespace Go.Proofs.Ytecplbjggbelbaa
open Go.RowKit Go.Sort

set_option maxHeartbeats 2000000 in
theorem ref_Changed (l m : List Va) (B : Nat) (A A' : Option Addr) (c c' : Nat) (p : Int) (w : World) (hr : Reads w B 5 A l.length (vcells l)) (hr' : Reads w B 5 A' m.length (vcells m)) (hB : B ≤ w.heap.size) (hm : l.length ≤ 4294967296) (hm' : m.length ≤ 4294967296) :
    Calls Try.prog 11 #[.slice A l.length c, .slice A' m.length c', .int .i64 p] w (ChgPost (chgOf l m (inFrom p 0 l)) w) := by
  have CI0 : Calls Try.prog 27 #[.slice A l.length c, .int .i64 p] w (IntsPost (inFrom p 0 l) w) := ref_In l B A c p w hr hB hm
  have CI := Lib.hid CI0
  clear CI0
  have hlt0 : ∀ z ∈ inFrom p 0 l, 0 ≤ z ∧ z < l.length := fun z hz => by have := in_lt hz; omega
  have hle := in_len (p := p) l 0
  generalize hxs : inFrom p 0 l = xs at *
  clear hxs
  have hF : ∀ (nm : ByteArray) (W : World), Reads W B 5 A' m.length (vcells m) → B ≤ W.heap.size → Calls Try.prog 28 #[.slice A' m.length c', .string nm] W (FindPostB nm m W) := fun nm W h1 h2 => (ref_Find m B A' c' nm W h1 (by unfold maxLen; omega)).mono fun e w' ⟨he, hw⟩ => ⟨he, hw ▸ Below.refl _ _⟩
  have CF := Lib.hid hF
  have HL := Lib.hid hlt0
  clear hF hlt0
  go_enter Try.func11, Try.ntmps11
  go_wp2_with (go_at_call 27; refine (CI.out).mono ?_; rintro e w1 ⟨v1, rfl, hown1, hb1⟩; obtain ⟨A1, c1, rfl⟩ := own_form hown1)
  have hr1 := Reads.of_own hown1
  have hs1 := hb1.size
  have hrl := hr.below (hb1.mono hB)
  have hrm := hr'.below (hb1.mono hB)
  go_loopw [9] (fun i wr => ∃ k : Nat, k ≤ xs.length ∧ i = .int .i64 k ∧ Hid (chgOf l m xs = chgOf l m (xs.drop k)) ∧ Below w1.heap.size w1 wr) (fun i _ => xs.length - (intOf i).toNat)
  case atStart => exact ⟨0, Nat.zero_le _, rfl, rfl, Below.refl _ _⟩
  case round =>
    obtain ⟨k, hk, rfl, H, hbw⟩ := hrel
    have hsz := hbw.size
    by_cases hlt : k < xs.length
    · obtain ⟨b1, o1, z, rfl, hbb, hz, cz⟩ := icell (hr1.below hbw) hlt
      obtain ⟨hz0, hz1⟩ := HL.out z (List.mem_of_getElem? hz)
      obtain ⟨n, rfl⟩ := Int.eq_ofNat_of_zero_le hz0
      have hn : n < l.length := by omega
      obtain ⟨b, o, v, rfl, hb, hv, c0, c1', c2, c3, c4⟩ := var_at (hrl.below (hbw.mono (Nat.le_trans hB hs1))) hn
      have hst := H.out.trans (chg_step hz hv)
      have hi1 : (n : Int) < (l.length : Int) := by omega
      have hrm2 := Lib.hid (hrm.below (hbw.mono (Nat.le_trans hB hs1)))
      have hBw : B ≤ wr.heap.size := by omega
      clear hz hv H hr hr' hrl
      cases hf : findFrom v.nm 0 m with
      | none =>
        rw [hf] at hst
        have HF := Lib.hid hst
        have C2 := Lib.hid (fun W h1 h2 => CF.out v.nm W h1 h2)
        unfold FindPostB at C2
        rw [hf] at C2
        clear hst hf hr1 hown1
        go_wp2_with (go_at_call 28; refine (C2.out _ (hrm2.out.alloc hBw _) (by simp; omega)).mono ?_; rintro e w2 ⟨rfl, hb2⟩; obtain ⟨hc, hf⟩ := bcell hb2; have hz2 := hb2.size; simp at hz2)
        go_quiet (fail)
        go_wp2
        go_roundw
        case rel => exact ⟨k + 1, by omega, by go_num, HF.out, below_drewN ((hbw.alloc (by omega) _).trans (hb2.mono (by simp; omega))) _⟩
        case measure => simp [intOf]; omega
      | some k2 =>
        have hk2 := find_lt hf
        obtain ⟨b3, o3, x, hA3, hb3, hx, e0, e1, -⟩ := var_at (hrm2.out) (k := k2) (by omega)
        subst hA3
        rw [hf] at hst
        simp only [hx] at hst
        have C2 := Lib.hid (fun W h1 h2 => CF.out v.nm W h1 h2)
        unfold FindPostB at C2
        rw [hf] at C2
        have hi3 : (k2 : Int) < (m.length : Int) := by omega
        have hb3' : b3 < wr.heap.size := World.block_lt_of_cell? wr _ e0
        by_cases hq : x.t = v.t
        · rw [if_pos hq] at hst
          have HF := Lib.hid hst
          have q1 : (x.t != v.t) = false := by simp [hq]
          clear hst hf hr1 hown1 hx hq hk2
          go_wp2_with (go_at_call 28; refine (C2.out _ (hrm2.out.alloc hBw _) (by simp; omega)).mono ?_; rintro e w2 ⟨rfl, hb2⟩; obtain ⟨hc, hf⟩ := bcell hb2; have hz2 := hb2.size; simp at hz2; simp only [Option.getD_some, Option.isSome_some])
          go_quiet (fail)
          go_wp2
          go_roundw
          case rel => exact ⟨k + 1, by omega, by go_num, HF.out, below_drewN ((hbw.alloc (by omega) _).trans (hb2.mono (by simp; omega))) _⟩
          case measure => simp [intOf]; omega
        · rw [if_neg hq] at hst
          have HF := Lib.hid hst
          have q1 : (x.t != v.t) = true := by simp [hq]
          clear hst hf hr1 hown1 hx hq hk2
          go_wp2_with (go_at_call 28; refine (C2.out _ (hrm2.out.alloc hBw _) (by simp; omega)).mono ?_; rintro e w2 ⟨rfl, hb2⟩; obtain ⟨hc, hf⟩ := bcell hb2; have hz2 := hb2.size; simp at hz2; simp only [Option.getD_some, Option.isSome_some])
          go_quiet (fail)
          go_wp2
          go_ret2
          exact ChgPost.yes HF.out (below_drewN (hb1.trans (Below.mono ((hbw.alloc (by omega) _).trans (hb2.mono (by simp; omega))) hs1)) _)
    · have HF := Lib.hid (H.out.trans (by rw [List.drop_of_length_le (by omega)]; rfl : _ = none))
      clear H
      go_wp2
      go_ret2
      exact ChgPost.no HF.out (hb1.trans (hbw.mono hs1))
end Go.Proofs.Ytecplbjggbelbaa
