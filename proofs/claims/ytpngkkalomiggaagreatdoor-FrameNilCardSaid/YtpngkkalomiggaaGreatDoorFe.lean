/- A part of the proof: FFH. -/
import Derived.Test.YtpngkkalomiggaaGreatDoorFd
set_option linter.all false
namespace Go.Proofs.YtpngkkalomiggaaGreatDoor
open Go Go.AH Go.RowKit
theorem law_run (s : List UInt8) (a : Int) (vs : List V) (name : List UInt8) (t n : Int) :
    fm T gl LG1 knG ov0 300 60 3 [.agg [.str s, .int .i64 a, .seq 26 vs], .str name, .agg [.int .i64 t, .int .i64 n]] [] = some (.ret (.bool true) []) := by kernel_rfl
end Go.Proofs.YtpngkkalomiggaaGreatDoor
