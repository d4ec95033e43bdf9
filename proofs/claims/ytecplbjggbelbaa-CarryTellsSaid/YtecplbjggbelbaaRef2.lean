/- The contract of the reference's Slots. -/
import Derived.Test.YtecplbjggbelbaaRef
namespace Go.Proofs.Ytecplbjggbelbaa
open Go.RowKit Go.Sort

theorem key_step (nm : ByteArray) (t : Int) (l : List Va) (k : Nat) (v : Va) (h : l[k]? = some v) :
    keyFrom nm t k (l.drop k) = if v.is nm t = true then some (k : Int) else keyFrom nm t (k + 1) (l.drop (k + 1)) := by
  obtain ⟨hk, rfl⟩ := List.getElem?_eq_some_iff.1 h
  rw [List.drop_eq_getElem_cons hk, keyFrom]
theorem slots_snoc {l m : List Va} {k : Nat} {v : Va} (hv : m[k]? = some v) : slotsOf l (m.take (k + 1)) = slotsOf l (m.take k) ++ [(keyFrom v.nm v.t 0 l).getD (-1)] := by
  rw [take_snoc hv]
  simp only [slotsOf, List.map_append, List.map_cons, List.map_nil]

set_option maxHeartbeats 2000000 in
theorem ref_Slots (l m : List Va) (B : Nat) (A A' : Option Addr) (c c' : Nat) (w : World) (hr : Reads w B 5 A l.length (vcells l)) (hr' : Reads w B 5 A' m.length (vcells m)) (hB : B ≤ w.heap.size) (hm : l.length ≤ 4294967296) (hm' : m.length ≤ 4294967296) :
    Calls Try.prog 17 #[.slice A l.length c, .slice A' m.length c'] w (IntsPost (slotsOf l m) w) := by
  obtain ⟨i0, hi, hz0, hz1, hz2⟩ := info_parts info_int
  go_enter Try.func17, Try.ntmps17
  go_wp2
  go_loopw [5, 6] (fun out i wr => ∃ k : Nat, k ≤ m.length ∧ i = .int .i64 k ∧ ∃ acc : List Int, acc.length = k ∧ Hid (acc = slotsOf l (m.take k)) ∧ wr.ownsRow w.heap.size 3 1 out acc.length (acc.map (Value.int .i64)) ∧ Below w.heap.size w wr) (fun _ i _ => m.length - (intOf i).toNat)
  case atStart => exact ⟨0, Nat.zero_le _, rfl, [], rfl, rfl, World.ownsRow_nil _ _ _ _, Below.refl _ _⟩
  case round =>
    obtain ⟨k, hk, rfl, acc, hac, H, hown, hbw⟩ := hrel
    have hk0 : acc.length ≤ k := by omega
    have hk1 : k ≤ acc.length := by omega
    by_cases hlt : k < m.length
    · obtain ⟨b', o', y, rfl, hb', hv', d0, d1, d2, d3, d4⟩ := var_at (hr'.below (hbw.mono hB)) hlt
      have hi2 : (k : Int) < (m.length : Int) := by omega
      have HS := Lib.hid (slots_snoc (l := l) hv')
      rw [← H.out] at HS
      clear H hac hr' hv'
      obtain ⟨wo, rfl⟩ : ∃ wo : World, wo = wr := ⟨_, rfl⟩
      go_wp2
      go_loopw [7, 8] (fun at_ i wr => ∃ n : Int, -1 ≤ n ∧ n < l.length ∧ i = .int .i64 n ∧ ∃ a : Int, at_ = .int .i64 a ∧ Hid (a = (keyFrom y.nm y.t (n + 1).toNat (l.drop (n + 1).toNat)).getD (-1)) ∧ Below wo.heap.size wo wr) (fun _ i _ => (intOf i + 1).toNat)
      case atStart =>
        refine ⟨(l.length : Int) - 1, by omega, by omega, rfl, -1, rfl, ?_, Below.refl _ _⟩
        show (-1 : Int) = _
        rw [show ((l.length : Int) - 1 + 1).toNat = l.length from by omega, List.drop_length]
        rfl
      case round =>
        obtain ⟨n, hn1, hn2, rfl, a, rfl, HA, hbi⟩ := hrel
        by_cases hn : 0 ≤ n
        · obtain ⟨j, rfl⟩ := Int.eq_ofNat_of_zero_le hn
          have hj : j < l.length := by omega
          obtain ⟨b, o, x, rfl, hb, hv, c0, c1, c2, c3, c4⟩ := var_at ((hr.below (hbw.mono hB)).below (hbi.mono (Nat.le_trans hB hbw.size))) hj
          have d0' := (hbi.cell (p := ⟨b', o' + k * 5, none⟩) (World.block_lt_of_cell? wo _ d0)).trans d0
          have d1' := (hbi.cell (p := ⟨b', o' + k * 5 + 1, none⟩) (World.block_lt_of_cell? wo _ d1)).trans d1
          have hi1 : (j : Int) < (l.length : Int) := by omega
          have ks := key_step y.nm y.t l j x hv
          clear hn
          by_cases hq1 : y.nm.toList = x.nm.toList
          · by_cases hq2 : y.t = x.t
            · have HF : Hid ((j : Int) = (keyFrom y.nm y.t ((j : Int) - 1 + 1).toNat (l.drop ((j : Int) - 1 + 1).toNat)).getD (-1)) := by
                show (j : Int) = _
                rw [show ((j : Int) - 1 + 1).toNat = j from by omega, ks, if_pos (by simp [Va.is, hq1, hq2])]; rfl
              have e1 : (x.nm.toList == y.nm.toList) = true := by simp [hq1]
              have e2 : (x.t == y.t) = true := by simp [hq2]
              clear ks hv hr hq1 hq2 d2 d3 d4 d0 d1 c2 c3 c4
              go_wp2
              go_quiet (fail)
              go_wp2
              go_roundw
              case rel => exact ⟨(j : Int) - 1, by omega, by omega, rfl, _, rfl, HF, below_drewN hbi _⟩
              case measure => simp [intOf] <;> omega
            · have HF : Hid (a = (keyFrom y.nm y.t ((j : Int) - 1 + 1).toNat (l.drop ((j : Int) - 1 + 1).toNat)).getD (-1)) := by
                show a = _
                rw [show ((j : Int) - 1 + 1).toNat = j from by omega, ks, if_neg (by simp [Va.is, hq2]), HA.out, show ((j : Int) + 1).toNat = j + 1 from by omega]
              have e1 : (x.nm.toList == y.nm.toList) = true := by simp [hq1]
              have e2 : (x.t == y.t) = false := by rw [beq_eq_false_iff_ne]; exact fun h => hq2 h.symm
              clear ks hv hr hq1 hq2 d2 d3 d4 d0 d1 c2 c3 c4 HA
              go_wp2
              go_quiet (fail)
              go_wp2
              go_roundw
              case rel => exact ⟨(j : Int) - 1, by omega, by omega, rfl, _, rfl, HF, below_drewN hbi _⟩
              case measure => simp [intOf] <;> omega
          · have HF : Hid (a = (keyFrom y.nm y.t ((j : Int) - 1 + 1).toNat (l.drop ((j : Int) - 1 + 1).toNat)).getD (-1)) := by
              show a = _
              rw [show ((j : Int) - 1 + 1).toNat = j from by omega, ks, if_neg (by simp [Va.is, hq1]), HA.out, show ((j : Int) + 1).toNat = j + 1 from by omega]
            have e1 : (x.nm.toList == y.nm.toList) = false := by rw [beq_eq_false_iff_ne]; exact fun h => hq1 h.symm
            clear ks hv hr hq1 d2 d3 d4 d0 d1 c2 c3 c4 HA
            go_wp2
            go_quiet (fail)
            go_wp2
            go_roundw
            case rel => exact ⟨(j : Int) - 1, by omega, by omega, rfl, _, rfl, HF, below_drewN hbi _⟩
            case measure => simp [intOf] <;> omega
        · have HF : Hid (acc ++ [a] = slotsOf l (m.take (k + 1))) := by
            show _ = _
            rw [HS.out, HA.out, show (n + 1).toNat = 0 from by omega]; rfl
          have hown1 := own_below hown hbi
          have hbw1 : Below w.heap.size w wr := hbw.trans (hbi.mono hbw.size)
          have hsz := hbw1.size
          clear HA HS hr d0 d1 d2 d3 d4
          go_wp2_with (at_builtin; go_must (refine wpList_append_own _ rfl _ _ 35 rfl w.heap.size 3 i0 (.int .i64 0) 1 8 Try.underlying35 hi hz0 hz1 hz2 rfl (by decide) _ _ _ rfl (hown1.alloc _) ⟨wr.heap.size, 0, none⟩ 1 1 [.int .i64 a] rfl rfl (cell_new _ _ _) (by simp [Value.oneCell']) (by unfold maxLen; omega) (by omega) (by simp; omega) ?_); intro v3 w3 hown3 hg3 hn3; go_must (have X : Hid (w3.ownsRow w.heap.size 3 1 v3 (acc ++ [a]).length ((acc ++ [a]).map (Value.int .i64)) ∧ Below w.heap.size w w3) := ⟨by simpa using hown3, Below.grown (hbw1.alloc (by omega) _) hg3 (by simp; omega) (fun j hj => (hown1.lt _ hj).1)⟩); clear hown3 hg3 hn3)
          go_roundw
          case rel => exact ⟨k + 1, by omega, by go_num, acc ++ [a], by simp; omega, HF, X.out.1, X.out.2⟩
          case measure => simp [intOf]; omega
    · have hkm : k = m.length := by omega
      have HE := Lib.hid (by rw [H.out, hkm, List.take_length] : acc = slotsOf l m)
      clear H hac hr' hkm
      go_wp2
      go_ret
      exact ⟨_, rfl, by rw [← HE.out]; exact hown, hbw⟩
end Go.Proofs.Ytecplbjggbelbaa
