/- A part of the proof: TW. -/
import Derived.Test.YtpngkkalomiggaaGreatDoorEG
import Derived.Test.YtpngkkalomiggaaGreatDoorCards
import Derived.Test.YtpngkkalomiggaaGreatDoorTie
set_option linter.all false
namespace Go.Proofs.YtpngkkalomiggaaGreatDoor
open Go Go.AH Go.ChangeShapes Go.WideShapes Go.ChangeAt Go.RowKit
noncomputable def firstCells : Array Value := (Pinned.utf8FirstZ.map fun (n : Nat) => Value.int .u8 (n : Int)).toArray
noncomputable def laidWorld (os : Os) : World :=
  { World.doorLaid Tryz.prog 121 os with heap := (World.doorLaid Tryz.prog 121 os).heap.modify 13 fun
      | .cells _ t frozen => .cells firstCells t frozen
      | o => o }
noncomputable def args0 : Array Value := #[.agg #[.string ByteArray.empty, .int .i64 0, .slice none 0 0], .string ByteArray.empty, .agg #[.int .i64 0, .int .i64 0]]
theorem laid_met (os : Os) : laidMetH Tryz.prog Rows.frameNilRow.laid ((laidWorld os).forCall (fun _ _ => 0) ⟨#[], args0, []⟩).memory :=
  laidMetH_of_leaves (fuel := 8) (M := 257) (by kernel_rfl)
theorem vars_ok (os : Os) : ((laidWorld os).forCall (fun _ _ => 0) ⟨#[], args0, []⟩).variablesRefB Tryz.prog = true := by kernel_rfl
theorem rest_ok (os : Os) : (((laidWorld os).forCall (fun _ _ => 0) ⟨#[], args0, []⟩).heap.toList.drop Tryz.prog.globals.size).take ((begin Tryz.prog (fun _ _ => 0) default).world.heap.size - Tryz.prog.globals.size) =
      (begin Tryz.prog (fun _ _ => 0) default).world.heap.toList.drop Tryz.prog.globals.size := by kernel_rfl
theorem args_ok (os : Os) : Input.okWideB Tryz.prog ((laidWorld os).forCall (fun _ _ => 0) ⟨#[], args0, []⟩) 3 ⟨#[], args0, []⟩ = true := by kernel_rfl
theorem reads (os : Os) {H : Type} (enc : TypeId × Value → H) : ∃ places, DataW.whole enc Tryz.prog ((laidWorld os).forCall (fun _ _ => 0) ⟨#[], args0, []⟩).memory Tryz.f3.params.toList Rows.frameNilSpec.vars false args0.toList 8 = some ([.agg [.lit (.string []), .lit (.int .i64 0), .nil], .lit (.string []), .agg [.lit (.int .i64 0), .lit (.int .i64 0)]], [], places) :=
  ⟨[], by kernel_rfl⟩
theorem sized_ok (os : Os) {H : Type} (enc : TypeId × Value → H) : (OpenSpec.ofChange Rows.frameNilSpec).bare.sizedB enc Tryz.prog Tryz.f3 false ((laidWorld os).forCall (fun _ _ => 0) ⟨#[], args0, []⟩).memory args0 8 = true := by kernel_rfl
end Go.Proofs.YtpngkkalomiggaaGreatDoor
