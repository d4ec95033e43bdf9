/- Contracts of the reference's In and Slots, and of the law's vars. -/
import Derived.Test.YtecplbjggbelbaaSlots
import Derived.Test.YtecplbjggbelbaaSame
import Derived.Lib.QuietBelow
namespace Go.Proofs.Ytecplbjggbelbaa
open Go.RowKit Go.Sort

/-- A region that draws its order and leaves what was there: one walk, then any such world. -/
theorem wp_region_below {P : Program} {id : Nat} {Q : Exit → Act → World → Prop} {a : Act} {w : World} {l : List Oper} (hm : P.follows .mixedOrders = true) (hB : Region.lexB .any l.toArray = true)
    (h : wpQuiet P l.toArray (fun w' => ∃ p : Regrown, w' = grow (redrawn w p.d) p.os) (fun a' => ∀ w', Below w.heap.size w w' → Q .normal a' w') l a) : (Code.region id l.toArray true).wp P Q a w := by
  refine wp_region_quiet_below hm hB ?_
  have mono : ∀ (l' : List Oper) (a : Act), wpQuiet P l.toArray (fun w' => ∃ p : Regrown, w' = grow (redrawn w p.d) p.os) (fun a' => ∀ w', Below w.heap.size w w' → Q .normal a' w') l' a →
      wpQuiet P l.toArray (fun w' => ∃ p : Regrown, w' = grow (redrawn w p.d) p.os) (fun a' => ∀ w', (∃ p : Regrown, w' = grow (redrawn w p.d) p.os) → Q .normal a' w') l' a := by
    intro l'
    induction l' with
    | nil => intro a h w' hw'; obtain ⟨p, rfl⟩ := hw'; exact h _ (below_regrown w p.d p.os)
    | cons o r ih =>
      intro a h
      unfold wpQuiet at h ⊢
      split at h
      · rename_i hw; rw [if_pos hw]; exact Oper.quiet_mono ih h
      · rename_i hw; rw [if_neg hw]; exact ih _ h
  exact mono l a h

set_option maxHeartbeats 1000000 in
theorem ref_In (l : List Va) (B : Nat) (A : Option Addr) (c : Nat) (p : Int) (w : World) (hr : Reads w B 5 A l.length (vcells l)) (hB : B ≤ w.heap.size) (hm : l.length ≤ 4294967296) :
    Calls Try.prog 27 #[.slice A l.length c, .int .i64 p] w (InPost p l w) := by
  obtain ⟨i0, hi, hz0, hz1, hz2⟩ := info_parts info_int
  go_enter Try.func27, Try.ntmps27
  go_wp2
  go_loopw [5, 6] (fun out i wr => ∃ k : Nat, k ≤ l.length ∧ i = .int .i64 k ∧ ∃ acc : List Int, acc.length ≤ k ∧ Hid (inFrom p 0 l = acc ++ inFrom p k (l.drop k)) ∧ wr.ownsRow w.heap.size 3 1 out acc.length (acc.map (Value.int .i64)) ∧ Below w.heap.size w wr) (fun _ i _ => l.length - (intOf i).toNat)
  case atStart => exact ⟨0, Nat.zero_le _, rfl, [], Nat.le_refl _, rfl, World.ownsRow_nil _ _ _ _, Below.refl _ _⟩
  case round =>
    obtain ⟨k, hk, rfl, acc, hac, H, hown, hbw⟩ := hrel
    by_cases hlt : k < l.length
    · obtain ⟨b, o, v, rfl, hb, hv, c0, c1, c2, c3, c4⟩ := var_at (hr.below (hbw.mono hB)) hlt
      have hs := in_step p l k v hv
      have hsz := hbw.size
      by_cases h1 : v.fr ≤ p
      · by_cases h2 : p < v.to
        · have hq : v.sees p = true := by simp [Va.sees, h1, h2]
          have HF := Lib.hid (H.out.trans (by rw [hs, if_pos hq, List.append_cons] : _ = (acc ++ [(k : Int)]) ++ inFrom p (k + 1) (l.drop (k + 1))))
          clear hs hv H hr hq
          go_wp2_with (at_builtin; refine wpList_append_own _ rfl _ _ 35 rfl w.heap.size 3 i0 (.int .i64 0) 1 8 Try.underlying35 hi hz0 hz1 hz2 rfl (by decide) _ _ _ rfl (hown.alloc _) ⟨wr.heap.size, 0, none⟩ 1 1 [.int .i64 k] rfl rfl (cell_new _ _ _) (by simp [Value.oneCell']) (by unfold maxLen; omega) (by omega) (by simp; omega) ?_; intro v3 w3 hown3 hg3 hn3; go_must (have X : Hid (w3.ownsRow w.heap.size 3 1 v3 (acc ++ [(k : Int)]).length ((acc ++ [(k : Int)]).map (Value.int .i64)) ∧ Below w.heap.size w w3) := ⟨by simpa using hown3, Below.grown (hbw.alloc (by omega) _) hg3 (by simp; omega) (fun j hj => (hown.lt _ hj).1)⟩); clear hown3 hg3 hn3)
          go_roundw
          case rel => exact ⟨k + 1, by omega, by go_num, acc ++ [(k : Int)], by simp; omega, HF.out, X.out.1, X.out.2⟩
          case measure => simp [intOf]; omega
        · have hq : ¬ v.sees p = true := by simp [Va.sees, h1, h2]
          have HF := Lib.hid (H.out.trans (by rw [hs, if_neg hq] : _ = acc ++ inFrom p (k + 1) (l.drop (k + 1))))
          clear hs hv H hr hq
          go_wp2
          go_roundw
          case rel => exact ⟨k + 1, by omega, by go_num, acc, by omega, HF.out, hown, hbw⟩
          case measure => simp [intOf]; omega
      · have hq : ¬ v.sees p = true := by simp [Va.sees, h1]
        have HF := Lib.hid (H.out.trans (by rw [hs, if_neg hq] : _ = acc ++ inFrom p (k + 1) (l.drop (k + 1))))
        clear hs hv H hr hq
        go_wp2
        go_roundw
        case rel => exact ⟨k + 1, by omega, by go_num, acc, by omega, HF.out, hown, hbw⟩
        case measure => simp [intOf]; omega
    · have HF := Lib.hid (H.out.trans (by rw [List.drop_of_length_le (by omega)]; simp [inFrom] : _ = acc))
      clear H
      go_wp2
      go_ret
      exact ⟨_, rfl, by rw [HF.out]; exact hown, hbw⟩

theorem info_var : (Try.prog.info? 64).map (fun i => (i.zero, i.size, i.bytes)) = some (some (.agg #[.string ⟨#[]⟩, .int .i64 0, .int .i64 0, .int .i64 0, .int .i64 0]), 5, 48) := by kernel_rfl
def VarsPost (l : List Va) (w : World) (e : Ending) (w' : World) : Prop :=
  ∃ v, e = .returned v ∧ w'.ownsRow w.heap.size 64 5 v l.length (vcells l) ∧ Below w.heap.size w w'
theorem vcells_snoc (l : List Va) (v : Va) : vcells (l ++ [v]) = vcells l ++ [.string v.nm, .int .i64 v.t, .int .i64 v.no, .int .i64 v.fr, .int .i64 v.to] := by simp [vcells, Va.cells]
theorem take_snoc {α : Type} {l : List α} {k : Nat} {v : α} (h : l[k]? = some v) : l.take (k + 1) = l.take k ++ [v] := by
  obtain ⟨hk, rfl⟩ := List.getElem?_eq_some_iff.1 h
  exact List.take_succ_eq_append_getElem hk
set_option maxHeartbeats 1000000 in
theorem law_vars (l : List Va) (B : Nat) (A : Option Addr) (c : Nat) (w : World) (hr : Reads w B 5 A l.length (vcells l)) (hB : B ≤ w.heap.size) (hm : l.length ≤ 65536) :
    Calls Try.prog 12 #[.slice A l.length c] w (VarsPost l w) := by
  obtain ⟨i0, hi, hz0, hz1, hz2⟩ := info_parts info_var
  go_enter Try.func12, Try.ntmps12
  go_wp2
  go_loopw [3, 4] (fun out i wr => ∃ k : Nat, k ≤ l.length ∧ i = .int .i64 k ∧ wr.ownsRow w.heap.size 64 5 out k (vcells (l.take k)) ∧ Below w.heap.size w wr) (fun _ i _ => l.length - (intOf i).toNat)
  case atStart => exact ⟨0, Nat.zero_le _, rfl, World.ownsRow_nil _ _ _ _, Below.refl _ _⟩
  case round =>
    obtain ⟨k, hk, rfl, hown, hbw⟩ := hrel
    have hsz := hbw.size
    by_cases hlt : k < l.length
    · obtain ⟨b, o, v, rfl, hb, hv, c0, c1, c2, c3, c4⟩ := var_at (hr.below (hbw.mono hB)) hlt
      have HT := Lib.hid (vcells_snoc (l.take k) v)
      rw [← take_snoc hv] at HT
      clear hv hr
      go_wp2_with (at_builtin; go_must (refine wpList_append_own _ rfl _ _ 28 rfl w.heap.size 64 i0 (.agg #[.string ⟨#[]⟩, .int .i64 0, .int .i64 0, .int .i64 0, .int .i64 0]) 5 48 Try.underlying28 hi hz0 hz1 hz2 rfl (by decide) _ _ _ rfl (hown.alloc _) ⟨wr.heap.size, 0, none⟩ 1 1 [.string v.nm, .int .i64 v.t, .int .i64 v.no, .int .i64 v.fr, .int .i64 v.to] rfl rfl (cell_new _ _ _) (by simp [Value.oneCell']) (by unfold maxLen; omega) (by omega) (by simp; omega) ?_); intro v3 w3 hown3 hg3 hn3; go_must (have X : Hid (w3.ownsRow w.heap.size 64 5 v3 (k + 1) (vcells (l.take (k + 1))) ∧ Below w.heap.size w w3) := ⟨by rw [HT.out]; exact hown3, Below.grown (hbw.alloc (by omega) _) hg3 (by simp; omega) (fun j hj => (hown.lt _ hj).1)⟩); clear hown3 hg3 hn3)
      go_roundw
      case rel => exact ⟨k + 1, by omega, by go_num, X.out.1, X.out.2⟩
      case measure => simp [intOf]; omega
    · obtain rfl : k = l.length := by omega
      go_wp2
      go_ret
      exact ⟨_, rfl, by rw [List.take_length] at hown; exact hown, hbw⟩
end Go.Proofs.Ytecplbjggbelbaa
