/- CarryRefuses returns true for every input and leaves what it read as it was. Conditions: none beyond the statement's own. -/
import Derived.Test.YtecplbjggbelbaaCR
import Derived.Test.YtecplbjggbelbaaCU
namespace Go.Proofs.Ytecplbjggbelbaa
open Go Go.AH Go.ChangeShapes Go.WideShapes Go.ChangeAt Go.RowKit
set_option maxRecDepth 100000 in
theorem carryRefuses_lifted (os : Os) (started : os.Started) (H : Type) (enc : TypeId × Value → H) :
    ReturnsInHanded {} Try.checked os 8 .any (Rows.carryRefusesSpec.pre6 enc Try.prog Try.f8 Rows.carryRefusesRow.domain false) (Rows.carryRefusesSpec.post enc Try.prog Try.f8 false true false false) := by
  refine returnsInHanded_of_change (C := Try.checked) Try.own started (by kernel_rfl) Try.func8
    (ChangeSpec.witness6 (enc := enc) (C := Try.checked) false ⟨#[], #[.slice none 0 0, .slice none 0 0, .int .u8 0, .int .u16 0], []⟩ 8 (by kernel_rfl) (by kernel_rfl) (by kernel_rfl) (by kernel_rfl)) ?_
  intro W base args ds gs before hval0 hW hcnd _
  have hval : ∀ (j : Nat) t v, Try.f8.params[j]? = some t → args[j]? = some v → Value.okWide Try.prog W .any base t v := hval0
  have hW' := hW
  obtain ⟨p, q, hA0, hV, rfl, hfz, hnd⟩ := hW
  have hA1 := hA0
  have hA : DataW.TrodAll enc Try.prog W 0 (fun _ => true) true Try.f8.params.toList args.toList ds p := hA0
  rw [Try.params8] at hA hval
  obtain ⟨v0, v1, v2, v3, d0, d1, d2, d3, p0, p1, p2, p3, rfl, rfl, rfl, h0, h1, h2, h3⟩ := trodAll_four hA
  obtain ⟨rfl, rfl⟩ := trodVars_none hV
  obtain ⟨l0, r0, g0⟩ := open_ons (hval 0 40 v0 rfl rfl) h0
  obtain ⟨l1, r1, g1⟩ := open_ons (hval 1 40 v1 rfl rfl) h1
  obtain ⟨l2, r2, g2⟩ := open_i Try.underlying5 h2 (hval 2 5 v2 rfl rfl)
  obtain ⟨l3, r3, g3⟩ := open_i Try.underlying59 h3 (hval 3 59 v3 rfl rfl)
  clear hval0
  have hlt := hW'.lt
  simp only [List.append_nil] at hW' hlt
  refine (top_calls (b := true) (C := mRefuses) (args := [.seq 70 l0, .seq 70 l1, .int .u8 l2, .int .u16 l3]) Try.func8 (by kernel_rfl) (c := (Try.f8.body).getD .skip) (by kernel_rfl) refuses_holds ⟨_, _, rfl, r0, ⟨_, _, rfl, r1, ⟨_, _, rfl, r2, ⟨_, _, rfl, r3, rfl⟩⟩⟩⟩ (by
    show (mRefuses [.seq 70 l0, .seq 70 l1, .int .u8 l2, .int .u16 l3] []).eval = _
    unfold mRefuses
    simp only
    rw [pd_iff.2 ⟨g0, g1, g2, g3⟩]
    rfl)).mono fun e W' ⟨he, hb⟩ => ?_
  subst he
  exact ⟨_, rfl, post_of_below (pv := []) hW' (fun _ _ _ => trodAll_mk1 (shut_bool Try.underlying4 _))
    (fun sp hs => trodAll_stays Try.laidOut _ _ _ _ (by kernel_rfl) hA1 (fun x hx => hb.same (hlt x hx)) (fun x hx => hs x hx)) (fun _ _ => rfl) (List.append_nil _).symm hb (ok_one (by kernel_rfl) rfl (okWide_bool_mk Try.underlying4 _))⟩

theorem carryRefuses_holds_row : Rows.CarryRefusesSaid :=
  OpenClaim.holds_of_wide 8 Try.f8 rfl rfl rfl rfl rfl rfl rfl ⟨rfl, rfl, rfl, rfl, rfl⟩ rfl rfl rfl rfl rfl (by kernel_rfl) Try.func8 (by kernel_rfl)
    (of_decide_eq_true (by kernel_rfl)) (by unfold Func.isWrapper; first | (rw [if_pos (by decide +kernel)]; kernel_rfl) | (rw [if_neg (by decide +kernel)]; exact ⟨rfl, rfl⟩))
    (fun os started H enc _ => carryRefuses_lifted os started H enc)
end Go.Proofs.Ytecplbjggbelbaa

