/- Contracts of layer 16 (values): Check, Of, Default, of the program and of the reference. -/
import Derived.Test.YtecplbjggbelbaaRows
import Derived.WalkKit
import Derived.WalkSpells
import Derived.WalkLawsBesides
import Derived.BigQuiet
import Derived.Lib.Hide
namespace Go.Proofs.Ytecplbjggbelbaa
open Go.RowKit

theorem ret_i64 {a b : Int} (h : a = b) : Ending.returned (.int .i64 a) = .returned (.int .i64 b) := by rw [h]
theorem ret_bool {a b : Bool} (h : a = b) : Ending.returned (.bool a) = .returned (.bool b) := by rw [h]
theorem bcell {W w1 : World} (hb : Below W.heap.size W w1) : (∀ b o, b < W.heap.size → w1.cell? ⟨b, o, none⟩ = W.cell? ⟨b, o, none⟩) ∧ (∀ b o, b < W.heap.size → w1.frozen? ⟨b, o, none⟩ = W.frozen? ⟨b, o, none⟩) :=
  ⟨fun b o h => hb.cell (p := ⟨b, o, none⟩) h, fun b o h => hb.frozen (p := ⟨b, o, none⟩) h⟩

def chk (t n : Int) : Int := if t = 1 then 0 else if t = 2 then (if 0 ≤ n ∧ n < 2 then 0 else 2) else if t = 3 then (if 0 ≤ n then 0 else 2) else 2

set_option maxHeartbeats 400000 in
theorem value_Check (t n : Int) (w : World) :
    Calls Try.prog 22 #[.agg #[.int .i64 t, .int .i64 n]] w fun e w' => e = .returned (.int .i64 (chk t n)) ∧ Below w.heap.size w w' := by
  go_enter Try.func22, Try.ntmps22
  go_wp2
  all_goals
    go_ret
    refine ⟨ret_i64 ?_, (Below.refl _ _).alloc (Nat.le_refl _) _⟩
    simp_all [chk]
    try omega

set_option maxHeartbeats 400000 in
theorem ref_Check (t n : Int) (w : World) :
    Calls Try.prog 29 #[.agg #[.int .i64 t, .int .i64 n]] w fun e w' => e = .returned (.int .i64 (chk t n)) ∧ Below w.heap.size w w' := by
  go_enter Try.func29, Try.ntmps29
  go_wp2
  all_goals
    go_ret
    refine ⟨ret_i64 ?_, (Below.refl _ _).alloc (Nat.le_refl _) _⟩
    simp_all [chk]
    try omega

theorem chk_two {t n : Int} (h : ¬ chk t n = 0) : chk t n = 2 := by
  have : chk t n = 0 ∨ chk t n = 2 := by unfold chk; (repeat' split) <;> simp
  omega
def ofV (t n : Int) : Value := if chk t n = 0 then .agg #[.int .i64 t, .int .i64 n] else .agg #[.int .i64 0, .int .i64 0]

set_option maxHeartbeats 400000 in
theorem value_Of (t n : Int) (w : World) :
    Calls Try.prog 31 #[.int .i64 t, .int .i64 n] w fun e w' => e = .returned (.tuple #[ofV t n, .int .i64 (chk t n)]) ∧ Below w.heap.size w w' := by
  by_cases h0 : chk t n = 0
  · rw [show ofV t n = .agg #[.int .i64 t, .int .i64 n] from if_pos h0]
    have h1 : (chk t n != 0) = false := by simp [h0]
    go_enter Try.func31, Try.ntmps31
    go_wp2_with (go_at_call 22; refine (value_Check _ _ _).mono ?_; rintro e w' ⟨rfl, hb⟩; obtain ⟨hc, hf⟩ := bcell hb; have hz := hb.size; simp at hz)
    refine bodyPost_ret (v := .tuple #[.agg #[.int .i64 t, .int .i64 n], .int .i64 (chk t n)]) ?_ rfl ⟨rfl, ?_⟩
    · have c0 := hc w.heap.size 0 (by simp; omega); have c1 := hc w.heap.size 1 (by simp; omega); simp [go_sem] at c0 c1; simp [results, Try.results31, go_sem, c0, c1, h0]
    · repeat (first | exact Below.refl _ _ | refine Below.setCell ?_ (by simp; done) _ | refine Below.drew ?_ | refine Below.alloc ?_ (by (try simp); (try omega)) _ | refine Below.trans ?_ (Below.mono (by assumption) (by (try simp); (try omega))))
  · rw [show ofV t n = .agg #[.int .i64 0, .int .i64 0] from if_neg h0]
    have h1 : (chk t n != 0) = true := by simp [h0]
    go_enter Try.func31, Try.ntmps31
    go_wp2_with (go_at_call 22; refine (value_Check _ _ _).mono ?_; rintro e w' ⟨rfl, hb⟩; obtain ⟨hc, hf⟩ := bcell hb; have hz := hb.size; simp at hz)
    refine bodyPost_ret (v := .tuple #[.agg #[.int .i64 0, .int .i64 0], .int .i64 (chk t n)]) ?_ rfl ⟨rfl, ?_⟩
    · have c0 := hc w.heap.size 0 (by simp; omega); have c1 := hc w.heap.size 1 (by simp; omega); simp [go_sem] at c0 c1; simp [results, Try.results31, go_sem, c0, c1, h0]
    · repeat (first | exact Below.refl _ _ | refine Below.setCell ?_ (by simp; done) _ | refine Below.drew ?_ | refine Below.alloc ?_ (by (try simp); (try omega)) _ | refine Below.trans ?_ (Below.mono (by assumption) (by (try simp); (try omega))))

set_option maxHeartbeats 400000 in
theorem ref_Of (t n : Int) (w : World) :
    Calls Try.prog 35 #[.int .i64 t, .int .i64 n] w fun e w' => e = .returned (.tuple #[ofV t n, .int .i64 (chk t n)]) ∧ Below w.heap.size w w' := by
  by_cases h0 : chk t n = 0
  · rw [show ofV t n = .agg #[.int .i64 t, .int .i64 n] from if_pos h0]
    have h1 : (chk t n != 0) = false := by simp [h0]
    go_enter Try.func35, Try.ntmps35
    go_wp2_with (go_at_call 29; refine (ref_Check _ _ _).mono ?_; rintro e w' ⟨rfl, hb⟩; obtain ⟨hc, hf⟩ := bcell hb; have hz := hb.size; simp at hz)
    refine bodyPost_ret (v := .tuple #[.agg #[.int .i64 t, .int .i64 n], .int .i64 (chk t n)]) ?_ rfl ⟨rfl, ?_⟩
    · have c0 := hc w.heap.size 0 (by simp; omega); have c1 := hc w.heap.size 1 (by simp; omega); simp [go_sem] at c0 c1; simp [results, Try.results35, go_sem, c0, c1, h0]
    · repeat (first | exact Below.refl _ _ | refine Below.setCell ?_ (by simp; done) _ | refine Below.drew ?_ | refine Below.alloc ?_ (by (try simp); (try omega)) _ | refine Below.trans ?_ (Below.mono (by assumption) (by (try simp); (try omega))))
  · rw [show ofV t n = .agg #[.int .i64 0, .int .i64 0] from if_neg h0]
    have h1 : (chk t n != 0) = true := by simp [h0]
    go_enter Try.func35, Try.ntmps35
    go_wp2_with (go_at_call 29; refine (ref_Check _ _ _).mono ?_; rintro e w' ⟨rfl, hb⟩; obtain ⟨hc, hf⟩ := bcell hb; have hz := hb.size; simp at hz)
    refine bodyPost_ret (v := .tuple #[.agg #[.int .i64 0, .int .i64 0], .int .i64 (chk t n)]) ?_ rfl ⟨rfl, ?_⟩
    · have c0 := hc w.heap.size 0 (by simp; omega); have c1 := hc w.heap.size 1 (by simp; omega); simp [go_sem] at c0 c1; simp [results, Try.results35, go_sem, c0, c1, chk_two h0]
    · repeat (first | exact Below.refl _ _ | refine Below.setCell ?_ (by simp; done) _ | refine Below.drew ?_ | refine Below.alloc ?_ (by (try simp); (try omega)) _ | refine Below.trans ?_ (Below.mono (by assumption) (by (try simp); (try omega))))


set_option maxHeartbeats 400000 in
theorem value_Default (t : Int) (w : World) :
    Calls Try.prog 21 #[.int .i64 t] w fun e w' => e = .returned (.tuple #[ofV t 0, .int .i64 (chk t 0)]) ∧ Below w.heap.size w w' := by
  obtain ⟨a, b, hv⟩ : ∃ a b, ofV t 0 = .agg #[.int .i64 a, .int .i64 b] := by unfold ofV; split <;> exact ⟨_, _, rfl⟩
  have C := Lib.hid (value_Of t 0)
  rw [hv] at C
  rw [hv]
  clear hv
  go_enter Try.func21, Try.ntmps21
  go_wp2_with (go_at_call 31; refine (C.out _).mono ?_; rintro e w' ⟨rfl, hb⟩; obtain ⟨hc, hf⟩ := bcell hb; have hz := hb.size; simp at hz)
  refine bodyPost_ret (v := .tuple #[.agg #[.int .i64 a, .int .i64 b], .int .i64 (chk t 0)]) ?_ rfl ⟨rfl, ?_⟩
  · have c0 := hc w.heap.size 0 (by simp); have c1 := hc w.heap.size 1 (by simp); simp [go_sem] at c0 c1; simp [results, Try.results21, go_sem, c0, c1]
  · repeat (first | exact Below.refl _ _ | refine Below.setCell ?_ (by simp; done) _ | refine Below.drew ?_ | refine Below.alloc ?_ (by (try simp); (try omega)) _ | refine Below.trans ?_ (Below.mono (by assumption) (by (try simp); (try omega))))
set_option maxHeartbeats 400000 in
theorem ref_Default (t : Int) (w : World) :
    Calls Try.prog 30 #[.int .i64 t] w fun e w' => e = .returned (.tuple #[ofV t 0, .int .i64 (chk t 0)]) ∧ Below w.heap.size w w' := by
  obtain ⟨a, b, hv⟩ : ∃ a b, ofV t 0 = .agg #[.int .i64 a, .int .i64 b] := by unfold ofV; split <;> exact ⟨_, _, rfl⟩
  have C := Lib.hid (ref_Of t 0)
  rw [hv] at C
  rw [hv]
  clear hv
  go_enter Try.func30, Try.ntmps30
  go_wp2_with (go_at_call 35; refine (C.out _).mono ?_; rintro e w' ⟨rfl, hb⟩; obtain ⟨hc, hf⟩ := bcell hb; have hz := hb.size; simp at hz)
  refine bodyPost_ret (v := .tuple #[.agg #[.int .i64 a, .int .i64 b], .int .i64 (chk t 0)]) ?_ rfl ⟨rfl, ?_⟩
  · have c0 := hc w.heap.size 0 (by simp); have c1 := hc w.heap.size 1 (by simp); simp [go_sem] at c0 c1; simp [results, Try.results30, go_sem, c0, c1]
  · repeat (first | exact Below.refl _ _ | refine Below.setCell ?_ (by simp; done) _ | refine Below.drew ?_ | refine Below.alloc ?_ (by (try simp); (try omega)) _ | refine Below.trans ?_ (Below.mono (by assumption) (by (try simp); (try omega))))
end Go.Proofs.Ytecplbjggbelbaa
