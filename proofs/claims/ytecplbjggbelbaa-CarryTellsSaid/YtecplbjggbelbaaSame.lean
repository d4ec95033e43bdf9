/- Contracts: equality of lists of integers and of values; the reference's In. -/
import Derived.Test.YtecplbjggbelbaaVar
import Derived.Deep.QuietTactic
namespace Go.Proofs.Ytecplbjggbelbaa
open Go.RowKit

theorem icell {l : List Int} {B n : Nat} {A : Option Addr} {w : World} (hr : Reads w B 1 A n (l.map (Value.int .i64))) {k : Nat} (hk : k < l.length) :
    ∃ b o z, A = some ⟨b, o, none⟩ ∧ b < B ∧ l[k]? = some z ∧ w.cell? ⟨b, o + k, none⟩ = some (.int .i64 z) := by
  obtain ⟨b, o, rfl, hb, hc⟩ := hr.at_ (by simp; omega)
  have hv : l[k]? = some l[k] := List.getElem?_eq_getElem hk
  exact ⟨b, o, l[k], rfl, hb, hv, hc k _ (by simp [hv])⟩

theorem eq_step {α : Type} [DecidableEq α] (l m : List α) (k : Nat) (x y : α) (hl : l[k]? = some x) (hm : m[k]? = some y) :
    decide (l.drop k = m.drop k) = if x = y then decide (l.drop (k + 1) = m.drop (k + 1)) else false := by
  obtain ⟨h1, rfl⟩ := List.getElem?_eq_some_iff.1 hl
  obtain ⟨h2, rfl⟩ := List.getElem?_eq_some_iff.1 hm
  rw [List.drop_eq_getElem_cons h1, List.drop_eq_getElem_cons h2]
  by_cases h : l[k] = m[k]
  · rw [if_pos h, h]; simp only [List.cons.injEq, true_and]
  · rw [if_neg h]; simp only [List.cons.injEq, h, false_and, decide_false]

def BoolPost (b : Bool) (w : World) (e : Ending) (w' : World) : Prop := e = .returned (.bool b) ∧ Below w.heap.size w w'
theorem BoolPost.of {b c : Bool} {w w' : World} (h : b = c) (hb : Below w.heap.size w w') : BoolPost b w (.returned (.bool c)) w' := ⟨by rw [h], hb⟩
set_option maxHeartbeats 400000 in
theorem law_ints (l m : List Int) (B : Nat) (A A' : Option Addr) (c c' : Nat) (w : World) (hr : Reads w B 1 A l.length (l.map (Value.int .i64))) (hr' : Reads w B 1 A' m.length (m.map (Value.int .i64))) (hB : B ≤ w.heap.size) (hm : l.length ≤ maxLen) :
    Calls Try.prog 15 #[.slice A l.length c, .slice A' m.length c'] w (BoolPost (decide (l = m)) w) := by
  unfold maxLen at hm
  by_cases hlen : l.length = m.length
  · have hne : ((l.length : Int) != (m.length : Int)) = false := by simp [hlen]
    have hml : m.length ≤ l.length := by omega
    have hlm : l.length ≤ m.length := by omega
    clear hlen
    go_enter Try.func15, Try.ntmps15
    go_wp2
    go_loopw [5] (fun i wr => ∃ k : Nat, k ≤ l.length ∧ i = .int .i64 k ∧ Hid (decide (l = m) = decide (l.drop k = m.drop k)) ∧ Below w.heap.size w wr) (fun i _ => l.length - (intOf i).toNat)
    case atStart => exact ⟨0, Nat.zero_le _, rfl, rfl, Below.refl _ _⟩
    case round =>
      obtain ⟨k, hk, rfl, H, hbw⟩ := hrel
      by_cases hlt : k < l.length
      · obtain ⟨b, o, x, rfl, hb, hv, c0⟩ := icell (hr.below (hbw.mono hB)) hlt
        obtain ⟨b', o', y, rfl, hb', hv', c0'⟩ := icell (hr'.below (hbw.mono hB)) (k := k) (by omega)
        have hs := eq_step l m k x y hv hv'
        have hi1 : (k : Int) < (l.length : Int) := by omega
        have hi2 : (k : Int) < (m.length : Int) := by omega
        by_cases hq : x = y
        · have HF := Lib.hid (H.out.trans (hs.trans (if_pos hq)))
          have hq' : (x != y) = false := by simp [hq]
          clear hs hv hv' H hq hr hr'
          go_wp2
          go_quiet (fail)
          go_wp2
          go_roundw
          case rel => exact ⟨k + 1, by omega, by go_num, HF.out, below_drewN hbw _⟩
          case measure => simp [intOf]; omega
        · have HF := Lib.hid (H.out.trans (hs.trans (if_neg hq)))
          have hq' : (x != y) = true := by simp [hq]
          clear hs hv hv' H hq hr hr'
          go_wp2
          go_quiet (fail)
          go_wp2
          go_ret
          exact BoolPost.of HF.out (below_drewN hbw _)
      · have HF := Lib.hid (H.out.trans (by rw [List.drop_of_length_le (by omega), List.drop_of_length_le (by omega)]; simp : _ = true))
        clear H
        go_wp2
        go_ret
        exact BoolPost.of HF.out (hbw)
  · have hne : ((l.length : Int) != (m.length : Int)) = true := by rw [bne_iff_ne]; omega
    have hd := Lib.hid (decide_eq_false (fun h => hlen (by rw [h])) : decide (l = m) = false)
    clear hlen
    go_enter Try.func15, Try.ntmps15
    go_wp2
    go_ret
    exact BoolPost.of hd.out (Below.refl _ _)

/-- Values of the language. -/
structure Av where
  t : Int
  n : Int
  deriving DecidableEq
def Av.cells (v : Av) : List Value := [.int .i64 v.t, .int .i64 v.n]
def Av.agg (v : Av) : Value := .agg #[.int .i64 v.t, .int .i64 v.n]
theorem Av.cells_len (v : Av) : v.cells.length = 2 := rfl
def acells (l : List Av) : List Value := l.flatMap Av.cells
theorem av_at {l : List Av} {B n : Nat} {A : Option Addr} {w : World} (hr : Reads w B 2 A n (acells l)) {k : Nat} (hk : k < l.length) :
    ∃ b o v, A = some ⟨b, o, none⟩ ∧ b < B ∧ l[k]? = some v ∧ w.cell? ⟨b, o + k * 2, none⟩ = some (.int .i64 v.t) ∧ w.cell? ⟨b, o + k * 2 + 1, none⟩ = some (.int .i64 v.n) := by
  have hv : l[k]? = some l[k] := List.getElem?_eq_getElem hk
  obtain ⟨b, o, rfl, hb, hc⟩ := hr.at_ (by rw [acells, flat_len Av.cells_len]; omega)
  exact ⟨b, o, l[k], rfl, hb, hv, hc _ _ (flat_get Av.cells_len l k 0 _ _ hv rfl), hc _ _ (flat_get Av.cells_len l k 1 _ _ hv rfl)⟩

set_option maxHeartbeats 400000 in
theorem ref_Same (l m : List Av) (B : Nat) (A A' : Option Addr) (c c' : Nat) (w : World) (hr : Reads w B 2 A l.length (acells l)) (hr' : Reads w B 2 A' m.length (acells m)) (hB : B ≤ w.heap.size) (hm : l.length ≤ maxLen) :
    Calls Try.prog 18 #[.slice A l.length c, .slice A' m.length c'] w (BoolPost (decide (l = m)) w) := by
  unfold maxLen at hm
  by_cases hlen : l.length = m.length
  · have hne : ((l.length : Int) != (m.length : Int)) = false := by simp [hlen]
    have hml : m.length ≤ l.length := by omega
    have hlm : l.length ≤ m.length := by omega
    clear hlen
    go_enter Try.func18, Try.ntmps18
    go_wp2
    go_loopw [5] (fun i wr => ∃ k : Nat, k ≤ l.length ∧ i = .int .i64 k ∧ Hid (decide (l = m) = decide (l.drop k = m.drop k)) ∧ Below w.heap.size w wr) (fun i _ => l.length - (intOf i).toNat)
    case atStart => exact ⟨0, Nat.zero_le _, rfl, rfl, Below.refl _ _⟩
    case round =>
      obtain ⟨k, hk, rfl, H, hbw⟩ := hrel
      by_cases hlt : k < l.length
      · obtain ⟨b, o, x, rfl, hb, hv, c0, c1⟩ := av_at (hr.below (hbw.mono hB)) hlt
        obtain ⟨b', o', y, rfl, hb', hv', d0, d1⟩ := av_at (hr'.below (hbw.mono hB)) (k := k) (by omega)
        have hs := eq_step l m k x y hv hv'
        have hi1 : (k : Int) < (l.length : Int) := by omega
        have hi2 : (k : Int) < (m.length : Int) := by omega
        by_cases hq : x = y
        · have HF := Lib.hid (H.out.trans (hs.trans (if_pos hq)))
          have hq1 : (x.t == y.t) = true := by simp [hq]
          have hq2 : (x.n == y.n) = true := by simp [hq]
          clear hs hv hv' H hq hr hr'
          go_wp2
          go_quiet (fail)
          go_wp2
          go_roundw
          case rel => exact ⟨k + 1, by omega, by go_num, HF.out, below_drewN hbw _⟩
          case measure => simp [intOf]; omega
        · have HF := Lib.hid (H.out.trans (hs.trans (if_neg hq)))
          by_cases hq1 : (x.t == y.t) = true
          · have hq2 : (x.n == y.n) = false := by
              rw [beq_eq_false_iff_ne]; intro h; apply hq; cases x; cases y; simp_all
            clear hs hv hv' H hq hr hr'
            go_wp2
            go_quiet (fail)
            go_wp2
            go_ret
            exact BoolPost.of HF.out (below_drewN hbw _)
          · have hq2 : (x.t == y.t) = false := by simpa using hq1
            clear hs hv hv' H hq hr hr' hq1
            go_wp2
            go_quiet (fail)
            go_wp2
            go_ret
            exact BoolPost.of HF.out (below_drewN hbw _)
      · have HF := Lib.hid (H.out.trans (by rw [List.drop_of_length_le (by omega), List.drop_of_length_le (by omega)]; simp : _ = true))
        clear H
        go_wp2
        go_ret
        exact BoolPost.of HF.out (hbw)
  · have hne : ((l.length : Int) != (m.length : Int)) = true := by rw [bne_iff_ne]; omega
    have hd := Lib.hid (decide_eq_false (fun h => hlen (by rw [h])) : decide (l = m) = false)
    clear hlen
    go_enter Try.func18, Try.ntmps18
    go_wp2
    go_ret
    exact BoolPost.of hd.out (Below.refl _ _)
end Go.Proofs.Ytecplbjggbelbaa
