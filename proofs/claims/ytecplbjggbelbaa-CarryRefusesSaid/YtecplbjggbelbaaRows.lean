/-
  No cell of these rows narrows 'for every input' (looked for: loops, veiled, ifaces, maps, wideKeys, modest, calm, conditions, laid).
  DERIVED. THE GIVEN ROWS OF THIS SEAT. 6 by the template 'for every input the law returns true; each argument reads behind the call as it read before'; 0 by the template 'total and deterministic' (their statements: YtecplbjggbelbaaTotals.lean).
  GIVEN WITH THE SEED: the statements are not yours to turn. If you find one false, say at which input.
  Laid BY PROGRAM, IN A SANDBOX (cutbox-rows.mjs): the forced cells as the released guide's own fill.sh prints them over the translation c9f27a5e4669d5fb… (all of the seat's roots in one cut). By AI agents, Wed Nov 11 2026. No macro, syntax, notation, axiom, sorry.
-/
import Derived.Test.YtecplbjggbelbaaChecked
import GoSem.Claim
import GoSem.ClaimJoined
import GoSem.ClaimMapViews
import Derived.JoinedTies
import Derived.KernelRfl
namespace Go.Proofs.Ytecplbjggbelbaa
/- THE CELL 'sum', in the pinned program and in every row, IS THE sha256 OF THE DUMP (.gsa) THAT YtecplbjggbelbaaProg.lean LOADS. Nothing in Lean hashes anything: it is a label: what it is worth is what the hold of that sum in a sandbox is worth. -/
noncomputable def Try.pinned : Pinned := { name := "ytecplbjggbelbaa", sum := "c9f27a5e4669d5fb4ab7ca7782f2c48c0cb3f34ea2ea8d5a8a2f454d392ccbc2", checked := Try.checked }
namespace Rows
def none {H : Type} : Left H := { results := [], args := [] }

/-- 'rewindlaw38.CarryTells': WHATEVER THE INPUT: true; the input reads as it did. -/
def carryTellsSpec : ChangeSpec := { name := "carryTells", fn := fun _ => fun
  | [d1, d2, d3, d4] => { results := [.lit (.bool true)], args := [d1, d2, d3, d4] }
  | _ => none }
def carryTellsRow : OpenClaim := { program := "ytecplbjggbelbaa", sum := "c9f27a5e4669d5fb4ab7ca7782f2c48c0cb3f34ea2ea8d5a8a2f454d392ccbc2", func := "rewind/rewindlaw38.CarryTells", spec := "carryTells", unfollowed := true, recurses := true, plainKeys := false, apart := false }
def CarryTellsSaid : Prop := carryTellsRow.holds Try.pinned (OpenSpec.ofChange carryTellsSpec)

/-- ITS FALSE NEIGHBOUR: 'it returns false'. Refute it at one input. -/
def carryTellsWrong : ChangeSpec := { name := "carryTells", fn := fun _ => fun
  | [d1, d2, d3, d4] => { results := [.lit (.bool false)], args := [d1, d2, d3, d4] }
  | _ => none }
def CarryTellsWrongFalsely : Prop := carryTellsRow.holds Try.pinned (OpenSpec.ofChange carryTellsWrong)

/-- 'rewindlaw38.CarryKeeps': WHATEVER THE INPUT: true; the input reads as it did. -/
def carryKeepsSpec : ChangeSpec := { name := "carryKeeps", fn := fun _ => fun
  | [d1, d2] => { results := [.lit (.bool true)], args := [d1, d2] }
  | _ => none }
def carryKeepsRow : OpenClaim := { program := "ytecplbjggbelbaa", sum := "c9f27a5e4669d5fb4ab7ca7782f2c48c0cb3f34ea2ea8d5a8a2f454d392ccbc2", func := "rewind/rewindlaw38.CarryKeeps", spec := "carryKeeps", unfollowed := true, recurses := true, plainKeys := false, apart := false }
def CarryKeepsSaid : Prop := carryKeepsRow.holds Try.pinned (OpenSpec.ofChange carryKeepsSpec)

/-- ITS FALSE NEIGHBOUR: 'it returns false'. Refute it at one input. -/
def carryKeepsWrong : ChangeSpec := { name := "carryKeeps", fn := fun _ => fun
  | [d1, d2] => { results := [.lit (.bool false)], args := [d1, d2] }
  | _ => none }
def CarryKeepsWrongFalsely : Prop := carryKeepsRow.holds Try.pinned (OpenSpec.ofChange carryKeepsWrong)

/-- 'rewindlaw38.CarrySame': WHATEVER THE INPUT: true; the input reads as it did. -/
def carrySameSpec : ChangeSpec := { name := "carrySame", fn := fun _ => fun
  | [d1, d2, d3] => { results := [.lit (.bool true)], args := [d1, d2, d3] }
  | _ => none }
def carrySameRow : OpenClaim := { program := "ytecplbjggbelbaa", sum := "c9f27a5e4669d5fb4ab7ca7782f2c48c0cb3f34ea2ea8d5a8a2f454d392ccbc2", func := "rewind/rewindlaw38.CarrySame", spec := "carrySame", unfollowed := true, recurses := true, plainKeys := false, apart := false }
def CarrySameSaid : Prop := carrySameRow.holds Try.pinned (OpenSpec.ofChange carrySameSpec)

/-- ITS FALSE NEIGHBOUR: 'it returns false'. Refute it at one input. -/
def carrySameWrong : ChangeSpec := { name := "carrySame", fn := fun _ => fun
  | [d1, d2, d3] => { results := [.lit (.bool false)], args := [d1, d2, d3] }
  | _ => none }
def CarrySameWrongFalsely : Prop := carrySameRow.holds Try.pinned (OpenSpec.ofChange carrySameWrong)

/-- 'rewindlaw38.CarryOrders': WHATEVER THE INPUT: true; the input reads as it did. -/
def carryOrdersSpec : ChangeSpec := { name := "carryOrders", fn := fun _ => fun
  | [d1, d2, d3, d4] => { results := [.lit (.bool true)], args := [d1, d2, d3, d4] }
  | _ => none }
def carryOrdersRow : OpenClaim := { program := "ytecplbjggbelbaa", sum := "c9f27a5e4669d5fb4ab7ca7782f2c48c0cb3f34ea2ea8d5a8a2f454d392ccbc2", func := "rewind/rewindlaw38.CarryOrders", spec := "carryOrders", unfollowed := true, recurses := true, plainKeys := false, apart := false }
def CarryOrdersSaid : Prop := carryOrdersRow.holds Try.pinned (OpenSpec.ofChange carryOrdersSpec)

/-- ITS FALSE NEIGHBOUR: 'it returns false'. Refute it at one input. -/
def carryOrdersWrong : ChangeSpec := { name := "carryOrders", fn := fun _ => fun
  | [d1, d2, d3, d4] => { results := [.lit (.bool false)], args := [d1, d2, d3, d4] }
  | _ => none }
def CarryOrdersWrongFalsely : Prop := carryOrdersRow.holds Try.pinned (OpenSpec.ofChange carryOrdersWrong)

/-- 'rewindlaw38.CarryTwice': WHATEVER THE INPUT: true; the input reads as it did. -/
def carryTwiceSpec : ChangeSpec := { name := "carryTwice", fn := fun _ => fun
  | [d1, d2, d3] => { results := [.lit (.bool true)], args := [d1, d2, d3] }
  | _ => none }
def carryTwiceRow : OpenClaim := { program := "ytecplbjggbelbaa", sum := "c9f27a5e4669d5fb4ab7ca7782f2c48c0cb3f34ea2ea8d5a8a2f454d392ccbc2", func := "rewind/rewindlaw38.CarryTwice", spec := "carryTwice", unfollowed := true, recurses := true, plainKeys := false, apart := false }
def CarryTwiceSaid : Prop := carryTwiceRow.holds Try.pinned (OpenSpec.ofChange carryTwiceSpec)

/-- ITS FALSE NEIGHBOUR: 'it returns false'. Refute it at one input. -/
def carryTwiceWrong : ChangeSpec := { name := "carryTwice", fn := fun _ => fun
  | [d1, d2, d3] => { results := [.lit (.bool false)], args := [d1, d2, d3] }
  | _ => none }
def CarryTwiceWrongFalsely : Prop := carryTwiceRow.holds Try.pinned (OpenSpec.ofChange carryTwiceWrong)

/-- 'rewindlaw38.CarryRefuses': WHATEVER THE INPUT: true; the input reads as it did. -/
def carryRefusesSpec : ChangeSpec := { name := "carryRefuses", fn := fun _ => fun
  | [d1, d2, d3, d4] => { results := [.lit (.bool true)], args := [d1, d2, d3, d4] }
  | _ => none }
def carryRefusesRow : OpenClaim := { program := "ytecplbjggbelbaa", sum := "c9f27a5e4669d5fb4ab7ca7782f2c48c0cb3f34ea2ea8d5a8a2f454d392ccbc2", func := "rewind/rewindlaw38.CarryRefuses", spec := "carryRefuses", unfollowed := true, recurses := true, plainKeys := false, apart := false }
def CarryRefusesSaid : Prop := carryRefusesRow.holds Try.pinned (OpenSpec.ofChange carryRefusesSpec)

/-- ITS FALSE NEIGHBOUR: 'it returns false'. Refute it at one input. -/
def carryRefusesWrong : ChangeSpec := { name := "carryRefuses", fn := fun _ => fun
  | [d1, d2, d3, d4] => { results := [.lit (.bool false)], args := [d1, d2, d3, d4] }
  | _ => none }
def CarryRefusesWrongFalsely : Prop := carryRefusesRow.holds Try.pinned (OpenSpec.ofChange carryRefusesWrong)

/- THE SECOND FORM. 'bulk': how many values and letters a reading holds, each counted each time it is reached (what is shared counts as often as it is met; a slice's spare places count too). A statement '..UptoSaid' is the law's where the arguments, and the package variables that the reading takes, are together of bulk at most 1048576: NARROWER than '..Said'. Prove '..Said' where nothing that the law and all that it calls make is longer than what came in: it says more and counts as full. Else prove '..UptoSaid'. A law counts once. -/
mutual
def uptoBulk {H : Type} : DataW H → Nat
  | .lit (.string bytes) => bytes.length + 1
  | .lit _ => 1
  | .nil => 1
  | .ptr d => uptoBulk d + 1
  | .slice elems spare => uptoBulkAll elems + uptoBulkAll spare + 1
  | .agg parts => uptoBulkAll parts + 1
  | .iface _ d => uptoBulk d + 1
  | .map entries => uptoBulkEntries entries + 1
  | .held _ => 1
def uptoBulkAll {H : Type} : List (DataW H) → Nat
  | [] => 0
  | d :: r => uptoBulk d + uptoBulkAll r
def uptoBulkEntries {H : Type} : List (Lit × DataW H) → Nat
  | [] => 0
  | x :: r => uptoBulkEntry x + uptoBulkEntries r
def uptoBulkEntry {H : Type} : Lit × DataW H → Nat
  | (.string bytes, d) => bytes.length + uptoBulk d + 1
  | (_, d) => uptoBulk d + 1
 end
def uptoSmall : (H : Type) → List (DataW H) → Bool := fun _ ds => decide (uptoBulkAll ds ≤ 1048576)
def OpenSpec.upto (s : _root_.Go.ChangeSpec) : _root_.Go.OpenSpec := { _root_.Go.OpenSpec.ofChange s with cond := some uptoSmall }

/-- 'rewindlaw38.CarryTells', WHERE WHAT IT READS IS OF BULK AT MOST 1048576: true; the input reads as it did. -/
def carryTellsUptoRow : OpenClaim := { program := "ytecplbjggbelbaa", sum := "c9f27a5e4669d5fb4ab7ca7782f2c48c0cb3f34ea2ea8d5a8a2f454d392ccbc2", func := "rewind/rewindlaw38.CarryTells", spec := "carryTells", unfollowed := true, recurses := true, plainKeys := false, apart := false, narrowed := true }
def CarryTellsUptoSaid : Prop := carryTellsUptoRow.holds Try.pinned (OpenSpec.upto carryTellsSpec)

/-- 'rewindlaw38.CarryKeeps', WHERE WHAT IT READS IS OF BULK AT MOST 1048576: true; the input reads as it did. -/
def carryKeepsUptoRow : OpenClaim := { program := "ytecplbjggbelbaa", sum := "c9f27a5e4669d5fb4ab7ca7782f2c48c0cb3f34ea2ea8d5a8a2f454d392ccbc2", func := "rewind/rewindlaw38.CarryKeeps", spec := "carryKeeps", unfollowed := true, recurses := true, plainKeys := false, apart := false, narrowed := true }
def CarryKeepsUptoSaid : Prop := carryKeepsUptoRow.holds Try.pinned (OpenSpec.upto carryKeepsSpec)

/-- 'rewindlaw38.CarrySame', WHERE WHAT IT READS IS OF BULK AT MOST 1048576: true; the input reads as it did. -/
def carrySameUptoRow : OpenClaim := { program := "ytecplbjggbelbaa", sum := "c9f27a5e4669d5fb4ab7ca7782f2c48c0cb3f34ea2ea8d5a8a2f454d392ccbc2", func := "rewind/rewindlaw38.CarrySame", spec := "carrySame", unfollowed := true, recurses := true, plainKeys := false, apart := false, narrowed := true }
def CarrySameUptoSaid : Prop := carrySameUptoRow.holds Try.pinned (OpenSpec.upto carrySameSpec)

/-- 'rewindlaw38.CarryOrders', WHERE WHAT IT READS IS OF BULK AT MOST 1048576: true; the input reads as it did. -/
def carryOrdersUptoRow : OpenClaim := { program := "ytecplbjggbelbaa", sum := "c9f27a5e4669d5fb4ab7ca7782f2c48c0cb3f34ea2ea8d5a8a2f454d392ccbc2", func := "rewind/rewindlaw38.CarryOrders", spec := "carryOrders", unfollowed := true, recurses := true, plainKeys := false, apart := false, narrowed := true }
def CarryOrdersUptoSaid : Prop := carryOrdersUptoRow.holds Try.pinned (OpenSpec.upto carryOrdersSpec)

/-- 'rewindlaw38.CarryTwice', WHERE WHAT IT READS IS OF BULK AT MOST 1048576: true; the input reads as it did. -/
def carryTwiceUptoRow : OpenClaim := { program := "ytecplbjggbelbaa", sum := "c9f27a5e4669d5fb4ab7ca7782f2c48c0cb3f34ea2ea8d5a8a2f454d392ccbc2", func := "rewind/rewindlaw38.CarryTwice", spec := "carryTwice", unfollowed := true, recurses := true, plainKeys := false, apart := false, narrowed := true }
def CarryTwiceUptoSaid : Prop := carryTwiceUptoRow.holds Try.pinned (OpenSpec.upto carryTwiceSpec)

/-- 'rewindlaw38.CarryRefuses', WHERE WHAT IT READS IS OF BULK AT MOST 1048576: true; the input reads as it did. -/
def carryRefusesUptoRow : OpenClaim := { program := "ytecplbjggbelbaa", sum := "c9f27a5e4669d5fb4ab7ca7782f2c48c0cb3f34ea2ea8d5a8a2f454d392ccbc2", func := "rewind/rewindlaw38.CarryRefuses", spec := "carryRefuses", unfollowed := true, recurses := true, plainKeys := false, apart := false, narrowed := true }
def CarryRefusesUptoSaid : Prop := carryRefusesUptoRow.holds Try.pinned (OpenSpec.upto carryRefusesSpec)

end Rows
end Go.Proofs.Ytecplbjggbelbaa
