/- A part of the proof. -/
import Derived.Test.YtkcikbcpjdccmaaGreatDoorED
import Derived.Test.YtkcikbcpjdccmaaGreatDoorCards
import Derived.Test.YtkcikbcpjdccmaaGreatDoorTie
set_option linter.all false
namespace Go.Proofs.YtkcikbcpjdccmaaGreatDoor
open Go Go.AH Go.ChangeShapes Go.WideShapes Go.ChangeAt Go.RowKit
noncomputable section
def aJE:Array Value:=(Pinned.utf8FirstZ.map λ(n:Nat)=>Value.int .u8 (n:Int)).toArray
def Bu(os:Os):World:=
 {World.doorLaid Tryz.prog 116 os with heap:=(World.doorLaid Tryz.prog 116 os).heap.modify 10 fun
   | .cells _ t frozen=>.cells aJE t frozen
   |o=>o}
def uZ:Array Value:= #[.string ByteArray.empty,.string ByteArray.empty]
def aJF(os:Os):laidMetH Tryz.prog Rows.checkNilRow.laid ((Bu os).forCall (λ_ _=>0) ⟨#[],uZ,[]⟩).memory:=
 aop (fuel:=8) (M:=257) (by kernel_rfl)
def aJG(os:Os):((Bu os).forCall (λ_ _=>0) ⟨#[],uZ,[]⟩).variablesRefB Tryz.prog=true:=by kernel_rfl
def aJH(os:Os):(((Bu os).forCall (λ_ _=>0) ⟨#[],uZ,[]⟩).heap.toList.drop Tryz.prog.globals.size).take ((begin Tryz.prog (λ_ _=>0) default).world.heap.size-Tryz.prog.globals.size)=
   (begin Tryz.prog (λ_ _=>0) default).world.heap.toList.drop Tryz.prog.globals.size:=by kernel_rfl
def aJI(os:Os):Input.okWideB Tryz.prog ((Bu os).forCall (λ_ _=>0) ⟨#[],uZ,[]⟩) 3 ⟨#[],uZ,[]⟩=true:=by kernel_rfl
def aJJ(os:Os){H:Type}(enc:TypeId×Value->H):∃places,DataW.whole enc Tryz.prog ((Bu os).forCall (λ_ _=>0) ⟨#[],uZ,[]⟩).memory Tryz.f3.params.toList Rows.checkNilSpec.vars false uZ.toList 8=some ([.lit (.string []),.lit (.string [])],[],places):=
 ⟨[],by kernel_rfl⟩
def aJK(os:Os){H:Type}(enc:TypeId×Value->H):(OpenSpec.ofChange Rows.checkNilSpec).bare.sizedB enc Tryz.prog Tryz.f3 false ((Bu os).forCall (λ_ _=>0) ⟨#[],uZ,[]⟩).memory uZ 8=true:=by kernel_rfl
end
end Go.Proofs.YtkcikbcpjdccmaaGreatDoor
