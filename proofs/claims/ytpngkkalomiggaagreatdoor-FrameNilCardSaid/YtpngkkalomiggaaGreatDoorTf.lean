/- A part of the proof: TF. -/
import Derived.Test.YtpngkkalomiggaaGreatDoorEG
import Derived.Test.YtpngkkalomiggaaGreatDoorCards
import Derived.JoinedCond
set_option linter.all false
namespace Go.Proofs.YtpngkkalomiggaaGreatDoor
open Go
theorem an {a b : Bool} (h : a = true) (g : b = true) : (a && b) = true := by rw [h, g]; rfl
theorem fWf : Rows.frameNilRow.wf (OpenSpec.ofChange (OpenSpec.ofChange Rows.frameNilSpec).bare) = true := by kernel_rfl
theorem fOut : laidOutB Tryz.pinned.checked.prog = true := by kernel_rfl
theorem fMaps : mapsRowed Tryz.pinned.checked.prog = true := by kernel_rfl
theorem fInPlace : (Rows.frameNilRow.inPlace == Tryz.pinned.checked.prog.inPlace 3) = true := by kernel_rfl
theorem fUnf : (Rows.frameNilRow.unfollowed == Tryz.pinned.checked.prog.unfollowed 3) = true := by kernel_rfl
theorem fRec : (Rows.frameNilRow.recurses == Tryz.pinned.checked.prog.recurses 3) = true := by kernel_rfl
theorem fNamed : (Rows.frameNilRow.named == Tryz.pinned.checked.prog.varsNamed 3) = true := by kernel_rfl
theorem closed : joinedFacts Tryz.pinned.checked.prog 3 Tryz.f3 (OpenSpec.ofChange Rows.frameNilSpec).bare Rows.frameNilRow = true := by
  unfold joinedFacts
  exact an (an (an (an (an (an (an (an (an (an (an (an (an (an (an (an (an (an (an (an (an (an (an (an (an (an (an (an (an (an (an fWf fOut) fMaps) (by kernel_rfl)) (by kernel_rfl)) (by kernel_rfl)) (by kernel_rfl)) (by kernel_rfl)) (by kernel_rfl)) fInPlace) fUnf) fRec) fNamed)
    (by kernel_rfl)) (by kernel_rfl)) (by kernel_rfl)) (by kernel_rfl)) (by kernel_rfl)) (by kernel_rfl)) (by kernel_rfl)) (by kernel_rfl)) (by kernel_rfl)) (by kernel_rfl)) (by kernel_rfl)) (by kernel_rfl)) (by kernel_rfl)) (by kernel_rfl)) (by kernel_rfl)) (by kernel_rfl)) (by kernel_rfl)) (by kernel_rfl)) (by kernel_rfl)
end Go.Proofs.YtpngkkalomiggaaGreatDoor
