/- CarrySame returns true for every input and leaves what it read as it was. Conditions: none beyond the statement's own. -/
import Derived.Test.YtecplbjggbelbaaCR
import Derived.Test.YtecplbjggbelbaaCT
namespace Go.Proofs.Ytecplbjggbelbaa
open Go Go.AH Go.ChangeShapes Go.WideShapes Go.ChangeAt Go.RowKit
set_option maxRecDepth 100000 in
theorem carrySame_lifted (os : Os) (started : os.Started) (H : Type) (enc : TypeId × Value → H) :
    ReturnsInHanded {} Try.checked os 5 .any (Rows.carrySameSpec.pre6 enc Try.prog Try.f5 Rows.carrySameRow.domain false) (Rows.carrySameSpec.post enc Try.prog Try.f5 false true false false) := by
  refine returnsInHanded_of_change (C := Try.checked) Try.own started (by kernel_rfl) Try.func5
    (ChangeSpec.witness6 (enc := enc) (C := Try.checked) false ⟨#[], #[.slice none 0 0, .int .i64 0, .int .i64 0], []⟩ 8 (by kernel_rfl) (by kernel_rfl) (by kernel_rfl) (by kernel_rfl)) ?_
  intro W base args ds gs before hval0 hW hcnd _
  have hval : ∀ (j : Nat) t v, Try.f5.params[j]? = some t → args[j]? = some v → Value.okWide Try.prog W .any base t v := hval0
  have hW' := hW
  obtain ⟨p, q, hA0, hV, rfl, hfz, hnd⟩ := hW
  have hA1 := hA0
  have hA : DataW.TrodAll enc Try.prog W 0 (fun _ => true) true Try.f5.params.toList args.toList ds p := hA0
  rw [Try.params5] at hA hval
  obtain ⟨v0, v1, v2, d0, d1, d2, p0, p1, p2, rfl, rfl, rfl, h0, h1, h2⟩ := trodAll_three hA
  obtain ⟨rfl, rfl⟩ := trodVars_none hV
  obtain ⟨l0, r0, g0⟩ := open_ons (hval 0 40 v0 rfl rfl) h0
  obtain ⟨l1, r1, g1⟩ := open_i Try.underlying3 h1 (hval 1 3 v1 rfl rfl)
  obtain ⟨l2, r2, g2⟩ := open_i Try.underlying3 h2 (hval 2 3 v2 rfl rfl)
  clear hval0
  have hlt := hW'.lt
  simp only [List.append_nil] at hW' hlt
  refine (top_calls (b := true) (C := mCSame) (args := [.seq 70 l0, .int .i64 l1, .int .i64 l2]) Try.func5 (by kernel_rfl) (c := (Try.f5.body).getD .skip) (by kernel_rfl) cSame_holds ⟨_, _, rfl, r0, ⟨_, _, rfl, r1, ⟨_, _, rfl, r2, rfl⟩⟩⟩ (by
    show (mCSame [.seq 70 l0, .int .i64 l1, .int .i64 l2] []).eval = _
    unfold mCSame
    simp only
    rw [pd_iff.2 g0]
    rfl)).mono fun e W' ⟨he, hb⟩ => ?_
  subst he
  exact ⟨_, rfl, post_of_below (pv := []) hW' (fun _ _ _ => trodAll_mk1 (shut_bool Try.underlying4 _))
    (fun sp hs => trodAll_stays Try.laidOut _ _ _ _ (by kernel_rfl) hA1 (fun x hx => hb.same (hlt x hx)) (fun x hx => hs x hx)) (fun _ _ => rfl) (List.append_nil _).symm hb (ok_one (by kernel_rfl) rfl (okWide_bool_mk Try.underlying4 _))⟩

theorem carrySame_holds_row : Rows.CarrySameSaid :=
  OpenClaim.holds_of_wide 5 Try.f5 rfl rfl rfl rfl rfl rfl rfl ⟨rfl, rfl, rfl, rfl, rfl⟩ rfl rfl rfl rfl rfl (by kernel_rfl) Try.func5 (by kernel_rfl)
    (of_decide_eq_true (by kernel_rfl)) (by unfold Func.isWrapper; first | (rw [if_pos (by decide +kernel)]; kernel_rfl) | (rw [if_neg (by decide +kernel)]; exact ⟨rfl, rfl⟩))
    (fun os started H enc _ => carrySame_lifted os started H enc)
end Go.Proofs.Ytecplbjggbelbaa

