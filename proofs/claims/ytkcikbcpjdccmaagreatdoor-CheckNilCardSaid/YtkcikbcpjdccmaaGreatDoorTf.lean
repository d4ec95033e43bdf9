/- A part of the proof. -/
import Derived.Test.YtkcikbcpjdccmaaGreatDoorED
import Derived.Test.YtkcikbcpjdccmaaGreatDoorCards
import Derived.JoinedCond
set_option linter.all false
namespace Go.Proofs.YtkcikbcpjdccmaaGreatDoor
open Go
noncomputable section
def gp{a b:Bool}(h:a=true)(g:b=true):(a &&b)=true:=by rw[h,g];rfl
def aJL:Rows.checkNilRow.wf (OpenSpec.ofChange (OpenSpec.ofChange Rows.checkNilSpec).bare)=true:=by kernel_rfl
def aJM:laidOutB Tryz.pinned.checked.prog=true:=by kernel_rfl
def aJN:mapsRowed Tryz.pinned.checked.prog=true:=by kernel_rfl
def aJO:(Rows.checkNilRow.inPlace==Tryz.pinned.checked.prog.inPlace 3)=true:=by kernel_rfl
def aJP:(Rows.checkNilRow.unfollowed==Tryz.pinned.checked.prog.unfollowed 3)=true:=by kernel_rfl
def aJQ:(Rows.checkNilRow.recurses==Tryz.pinned.checked.prog.recurses 3)=true:=by kernel_rfl
def aJR:(Rows.checkNilRow.named==Tryz.pinned.checked.prog.varsNamed 3)=true:=by kernel_rfl
def aJS:joinedFacts Tryz.pinned.checked.prog 3 Tryz.f3 (OpenSpec.ofChange Rows.checkNilSpec).bare Rows.checkNilRow=true:=by
 unfold joinedFacts;exact gp (gp (gp (gp (gp (gp (gp (gp (gp (gp (gp (gp (gp (gp (gp (gp (gp (gp (gp (gp (gp (gp (gp (gp (gp (gp (gp (gp (gp (gp (gp aJL aJM) aJN) (by kernel_rfl)) (by kernel_rfl)) (by kernel_rfl)) (by kernel_rfl)) (by kernel_rfl)) (by kernel_rfl)) aJO) aJP) aJQ) aJR)
  (by kernel_rfl)) (by kernel_rfl)) (by kernel_rfl)) (by kernel_rfl)) (by kernel_rfl)) (by kernel_rfl)) (by kernel_rfl)) (by kernel_rfl)) (by kernel_rfl)) (by kernel_rfl)) (by kernel_rfl)) (by kernel_rfl)) (by kernel_rfl)) (by kernel_rfl)) (by kernel_rfl)) (by kernel_rfl)) (by kernel_rfl)) (by kernel_rfl)) (by kernel_rfl)
end
end Go.Proofs.YtkcikbcpjdccmaaGreatDoor
