/- A part of the proof: TyZ. -/
import Derived.Test.YtpngkkalomiggaaGreatDoorProg
import Derived.Test.YtpngkkalomiggaaGreatDoorED
import Derived.KernelRfl
set_option linter.all false
namespace Go.Proofs.YtpngkkalomiggaaGreatDoor
open Go Go.AH
def T (t : TypeId) : Ty := (match Nat.blt t 447 with | true => (match Nat.blt t 226 with
 | true => (match Nat.blt t 116 with
  | true => (match Nat.blt t 56 with
   | true => (match Nat.blt t 26 with
    | true => (match Nat.blt t 13 with
     | true => (match Nat.blt t 7 with
      | true => (match Nat.blt t 4 with
       | true => (match Nat.blt t 2 with
        | true => (match Nat.beq t 1 with | true => ⟨1, false, 8, [.func], .func, false⟩ | false => tyNone)
        | false => (match Nat.blt t 3 with
         | true => (match Nat.beq t 2 with | true => ⟨1, false, 8, [.int .i64], .int .i64, false⟩ | false => tyNone)
         | false => (match Nat.beq t 3 with | true => ⟨1, false, 8, [.int .i64], .int .i64, false⟩ | false => tyNone)))
       | false => (match Nat.blt t 5 with
        | true => (match Nat.beq t 4 with | true => ⟨1, false, 1, [.bool], .bool, false⟩ | false => tyNone)
        | false => (match Nat.blt t 6 with
         | true => (match Nat.beq t 5 with | true => ⟨1, false, 1, [.int .u8], .int .u8, false⟩ | false => tyNone)
         | false => (match Nat.beq t 6 with | true => ⟨1, false, 1, [.int .u8], .int .u8, false⟩ | false => tyNone))))
      | false => (match Nat.blt t 10 with
       | true => (match Nat.blt t 8 with
        | true => (match Nat.beq t 7 with | true => ⟨4, true, 24, [.int .i64, .int .i64, .bool, .int .u8], .struct [(0, 1, false), (1, 1, false), (2, 1, false), (3, 1, false)], false⟩ | false => tyNone)
        | false => (match Nat.blt t 9 with
         | true => (match Nat.beq t 8 with | true => ⟨4, true, 24, [.int .i64, .int .i64, .bool, .int .u8], .struct [(0, 1, false), (1, 1, false), (2, 1, false), (3, 1, false)], false⟩ | false => tyNone)
         | false => (match Nat.beq t 9 with | true => ⟨1, false, 16, [.str], .str, false⟩ | false => tyNone)))
       | false => (match Nat.blt t 11 with
        | true => (match Nat.beq t 10 with | true => ⟨1, false, 16, [.str], .str, false⟩ | false => tyNone)
        | false => (match Nat.blt t 12 with
         | true => (match Nat.beq t 11 with | true => ⟨1, false, 16, [.str], .str, false⟩ | false => tyNone)
         | false => (match Nat.beq t 12 with | true => ⟨1, false, 8, [.int .u64], .int .u64, false⟩ | false => tyNone)))))
     | false => (match Nat.blt t 19 with
      | true => (match Nat.blt t 16 with
       | true => (match Nat.blt t 14 with
        | true => (match Nat.beq t 13 with | true => ⟨2, true, 24, [.str, .int .u64], .struct [(0, 1, false), (1, 1, false)], false⟩ | false => tyNone)
        | false => (match Nat.blt t 15 with
         | true => (match Nat.beq t 14 with | true => ⟨2, true, 24, [.str, .int .u64], .struct [(0, 1, false), (1, 1, false)], false⟩ | false => tyNone)
         | false => (match Nat.beq t 15 with | true => ⟨1, false, 8, [.ptr], .ptr 436, false⟩ | false => tyNone)))
       | false => (match Nat.blt t 17 with
        | true => (match Nat.beq t 16 with | true => ⟨1, false, 8, [.ptr], .ptr 439, false⟩ | false => tyNone)
        | false => (match Nat.blt t 18 with
         | true => (match Nat.beq t 17 with | true => ⟨1, false, 8, [.ptr], .ptr 446, false⟩ | false => tyNone)
         | false => (match Nat.beq t 18 with | true => ⟨1, true, 8, [.ptr], .struct [(0, 1, false)], false⟩ | false => tyNone))))
      | false => (match Nat.blt t 22 with
       | true => (match Nat.blt t 20 with
        | true => (match Nat.beq t 19 with | true => ⟨1, true, 8, [.ptr], .struct [(0, 1, false)], false⟩ | false => tyNone)
        | false => (match Nat.blt t 21 with
         | true => (match Nat.beq t 20 with | true => ⟨1, false, 16, [.iface], .iface, false⟩ | false => tyNone)
         | false => (match Nat.beq t 21 with | true => ⟨1, false, 4, [.int .i32], .int .i32, false⟩ | false => tyNone)))
       | false => (match Nat.blt t 24 with
        | true => (match Nat.blt t 23 with
         | true => (match Nat.beq t 22 with | true => ⟨1, false, 24, [.seq 26], .slice 26, false⟩ | false => tyNone)
         | false => (match Nat.beq t 23 with | true => ⟨3, true, 48, [.str, .int .i64, .seq 26], .struct [(0, 1, false), (1, 1, false), (2, 1, false)], false⟩ | false => tyNone))
        | false => (match Nat.blt t 25 with
         | true => (match Nat.beq t 24 with | true => ⟨3, true, 48, [.str, .int .i64, .seq 26], .struct [(0, 1, false), (1, 1, false), (2, 1, false)], false⟩ | false => tyNone)
         | false => (match Nat.beq t 25 with | true => ⟨2, true, 16, [.int .i64, .int .i64], .struct [(0, 1, false), (1, 1, false)], true⟩ | false => tyNone))))))
    | false => (match Nat.blt t 40 with
     | true => (match Nat.blt t 32 with
      | true => (match Nat.blt t 29 with
       | true => (match Nat.blt t 27 with
        | true => (match Nat.beq t 26 with | true => ⟨2, true, 16, [.int .i64, .int .i64], .struct [(0, 1, false), (1, 1, false)], true⟩ | false => tyNone)
        | false => (match Nat.blt t 28 with
         | true => (match Nat.beq t 27 with | true => ⟨1, false, 8, [.ptr], .ptr 44, false⟩ | false => tyNone)
         | false => (match Nat.beq t 28 with | true => ⟨2, true, 24, [.str, .int .i64], .struct [(0, 1, false), (1, 1, false)], true⟩ | false => tyNone)))
       | false => (match Nat.blt t 30 with
        | true => (match Nat.beq t 29 with | true => ⟨2, true, 24, [.str, .int .i64], .struct [(0, 1, false), (1, 1, false)], true⟩ | false => tyNone)
        | false => (match Nat.blt t 31 with
         | true => (match Nat.beq t 30 with | true => ⟨2, true, 16, [.int .i64, .int .i64], .struct [(0, 1, false), (1, 1, false)], true⟩ | false => tyNone)
         | false => (match Nat.beq t 31 with | true => ⟨2, true, 16, [.int .i64, .int .i64], .struct [(0, 1, false), (1, 1, false)], true⟩ | false => tyNone))))
      | false => (match Nat.blt t 37 with
       | true => (match Nat.blt t 34 with
        | true => (match Nat.beq t 32 with | true => ⟨1, false, 8, [.int .i64], .int .i64, false⟩ | false => tyNone)
        | false => (match Nat.blt t 35 with
         | true => (match Nat.beq t 34 with | true => ⟨1, false, 8, [.func], .func, false⟩ | false => tyNone)
         | false => (match Nat.beq t 35 with | true => ⟨1, false, 8, [.ptr], .ptr 57, false⟩ | false => tyNone)))
       | false => (match Nat.blt t 38 with
        | true => (match Nat.beq t 37 with | true => ⟨1, false, 8, [.func], .func, false⟩ | false => tyNone)
        | false => (match Nat.blt t 39 with
         | true => (match Nat.beq t 38 with | true => ⟨1, false, 24, [.seq 106], .slice 106, false⟩ | false => tyNone)
         | false => (match Nat.beq t 39 with | true => ⟨1, true, 24, [.seq 106], .struct [(0, 1, false)], false⟩ | false => tyNone)))))
     | false => (match Nat.blt t 47 with
      | true => (match Nat.blt t 43 with
       | true => (match Nat.blt t 41 with
        | true => (match Nat.beq t 40 with | true => ⟨1, true, 24, [.seq 106], .struct [(0, 1, false)], false⟩ | false => tyNone)
        | false => (match Nat.blt t 42 with
         | true => (match Nat.beq t 41 with | true => ⟨1, false, 24, [.seq 67], .slice 67, false⟩ | false => tyNone)
         | false => (match Nat.beq t 42 with | true => ⟨1, false, 8, [.map], .map 9 73, false⟩ | false => tyNone)))
       | false => (match Nat.blt t 44 with
        | true => (match Nat.beq t 43 with | true => ⟨3, true, 56, [.seq 106, .seq 67, .map], .struct [(0, 1, true), (1, 1, false), (2, 1, false)], false⟩ | false => tyNone)
        | false => (match Nat.blt t 45 with
         | true => (match Nat.beq t 44 with | true => ⟨3, true, 56, [.seq 106, .seq 67, .map], .struct [(0, 1, true), (1, 1, false), (2, 1, false)], false⟩ | false => tyNone)
         | false => (match Nat.beq t 45 with | true => ⟨1, false, 24, [.seq 27], .slice 27, false⟩ | false => tyNone))))
      | false => (match Nat.blt t 51 with
       | true => (match Nat.blt t 49 with
        | true => (match Nat.beq t 47 with | true => ⟨1, false, 8, [.func], .func, false⟩ | false => tyNone)
        | false => (match Nat.blt t 50 with
         | true => (match Nat.beq t 49 with | true => ⟨1, false, 8, [.func], .func, false⟩ | false => tyNone)
         | false => (match Nat.beq t 50 with | true => ⟨1, false, 8, [.func], .func, false⟩ | false => tyNone)))
       | false => (match Nat.blt t 54 with
        | true => (match Nat.blt t 53 with
         | true => (match Nat.beq t 51 with | true => ⟨1, false, 24, [.seq 9], .slice 9, false⟩ | false => tyNone)
         | false => (match Nat.beq t 53 with | true => ⟨1, false, 8, [.func], .func, false⟩ | false => tyNone))
        | false => (match Nat.blt t 55 with
         | true => (match Nat.beq t 54 with | true => ⟨1, false, 8, [.func], .func, false⟩ | false => tyNone)
         | false => (match Nat.beq t 55 with | true => ⟨1, false, 24, [.seq 131], .slice 131, false⟩ | false => tyNone)))))))
   | false => (match Nat.blt t 85 with
    | true => (match Nat.blt t 71 with
     | true => (match Nat.blt t 64 with
      | true => (match Nat.blt t 59 with
       | true => (match Nat.blt t 57 with
        | true => (match Nat.beq t 56 with | true => ⟨4, true, 48, [.bool, .int .i64, .int .i64, .seq 131], .struct [(0, 1, false), (1, 1, false), (2, 1, false), (3, 1, false)], false⟩ | false => tyNone)
        | false => (match Nat.blt t 58 with
         | true => (match Nat.beq t 57 with | true => ⟨4, true, 48, [.bool, .int .i64, .int .i64, .seq 131], .struct [(0, 1, false), (1, 1, false), (2, 1, false), (3, 1, false)], false⟩ | false => tyNone)
         | false => (match Nat.beq t 58 with | true => ⟨1, false, 8, [.func], .func, false⟩ | false => tyNone)))
       | false => (match Nat.blt t 61 with
        | true => (match Nat.beq t 59 with | true => ⟨1, false, 8, [.func], .func, false⟩ | false => tyNone)
        | false => (match Nat.blt t 63 with
         | true => (match Nat.beq t 61 with | true => ⟨1, false, 8, [.func], .func, false⟩ | false => tyNone)
         | false => (match Nat.beq t 63 with | true => ⟨1, false, 8, [.func], .func, false⟩ | false => tyNone))))
      | false => (match Nat.blt t 67 with
       | true => (match Nat.blt t 65 with
        | true => (match Nat.beq t 64 with | true => ⟨1, false, 8, [.func], .func, false⟩ | false => tyNone)
        | false => (match Nat.blt t 66 with
         | true => (match Nat.beq t 65 with | true => ⟨1, false, 24, [.seq 3], .slice 3, false⟩ | false => tyNone)
         | false => (match Nat.beq t 66 with | true => ⟨3, true, 48, [.str, .seq 3, .int .i64], .struct [(0, 1, false), (1, 1, false), (2, 1, false)], false⟩ | false => tyNone)))
       | false => (match Nat.blt t 69 with
        | true => (match Nat.beq t 67 with | true => ⟨3, true, 48, [.str, .seq 3, .int .i64], .struct [(0, 1, false), (1, 1, false), (2, 1, false)], false⟩ | false => tyNone)
        | false => (match Nat.blt t 70 with
         | true => (match Nat.beq t 69 with | true => ⟨1, false, 8, [.func], .func, false⟩ | false => tyNone)
         | false => (match Nat.beq t 70 with | true => ⟨1, false, 8, [.func], .func, false⟩ | false => tyNone)))))
     | false => (match Nat.blt t 77 with
      | true => (match Nat.blt t 74 with
       | true => (match Nat.blt t 72 with
        | true => (match Nat.beq t 71 with | true => ⟨1, false, 8, [.func], .func, false⟩ | false => tyNone)
        | false => (match Nat.blt t 73 with
         | true => (match Nat.beq t 72 with | true => ⟨1, false, 8, [.func], .func, false⟩ | false => tyNone)
         | false => (match Nat.beq t 73 with | true => ⟨1, false, 24, [.seq 76], .slice 76, false⟩ | false => tyNone)))
       | false => (match Nat.blt t 75 with
        | true => (match Nat.beq t 74 with | true => ⟨1, false, 8, [.func], .func, false⟩ | false => tyNone)
        | false => (match Nat.blt t 76 with
         | true => (match Nat.beq t 75 with | true => ⟨5, true, 48, [.str, .int .i64, .int .i64, .int .i64, .int .i64], .struct [(0, 1, false), (1, 1, false), (2, 1, false), (3, 1, false), (4, 1, false)], true⟩ | false => tyNone)
         | false => (match Nat.beq t 76 with | true => ⟨5, true, 48, [.str, .int .i64, .int .i64, .int .i64, .int .i64], .struct [(0, 1, false), (1, 1, false), (2, 1, false), (3, 1, false), (4, 1, false)], true⟩ | false => tyNone))))
      | false => (match Nat.blt t 80 with
       | true => (match Nat.blt t 78 with
        | true => (match Nat.beq t 77 with | true => ⟨1, false, 8, [.func], .func, false⟩ | false => tyNone)
        | false => (match Nat.blt t 79 with
         | true => (match Nat.beq t 78 with | true => ⟨1, false, 8, [.func], .func, false⟩ | false => tyNone)
         | false => (match Nat.beq t 79 with | true => ⟨1, false, 8, [.func], .func, false⟩ | false => tyNone)))
       | false => (match Nat.blt t 82 with
        | true => (match Nat.blt t 81 with
         | true => (match Nat.beq t 80 with | true => ⟨1, false, 8, [.func], .func, false⟩ | false => tyNone)
         | false => (match Nat.beq t 81 with | true => ⟨1, false, 8, [.func], .func, false⟩ | false => tyNone))
        | false => (match Nat.blt t 83 with
         | true => (match Nat.beq t 82 with | true => ⟨1, false, 8, [.func], .func, false⟩ | false => tyNone)
         | false => (match Nat.beq t 83 with | true => ⟨1, false, 8, [.func], .func, false⟩ | false => tyNone))))))
    | false => (match Nat.blt t 100 with
     | true => (match Nat.blt t 92 with
      | true => (match Nat.blt t 89 with
       | true => (match Nat.blt t 87 with
        | true => (match Nat.beq t 85 with | true => ⟨1, false, 8, [.func], .func, false⟩ | false => tyNone)
        | false => (match Nat.blt t 88 with
         | true => (match Nat.beq t 87 with | true => ⟨1, false, 8, [.func], .func, false⟩ | false => tyNone)
         | false => (match Nat.beq t 88 with | true => ⟨1, false, 8, [.func], .func, false⟩ | false => tyNone)))
       | false => (match Nat.blt t 90 with
        | true => (match Nat.beq t 89 with | true => ⟨1, false, 8, [.func], .func, false⟩ | false => tyNone)
        | false => (match Nat.blt t 91 with
         | true => (match Nat.beq t 90 with | true => ⟨1, false, 8, [.func], .func, false⟩ | false => tyNone)
         | false => (match Nat.beq t 91 with | true => ⟨3, true, 48, [.str, .seq 26, .int .i64], .struct [(0, 1, false), (1, 1, false), (2, 1, false)], false⟩ | false => tyNone))))
      | false => (match Nat.blt t 95 with
       | true => (match Nat.blt t 93 with
        | true => (match Nat.beq t 92 with | true => ⟨1, false, 24, [.seq 91], .slice 91, false⟩ | false => tyNone)
        | false => (match Nat.blt t 94 with
         | true => (match Nat.beq t 93 with | true => ⟨1, false, 8, [.func], .func, false⟩ | false => tyNone)
         | false => (match Nat.beq t 94 with | true => ⟨1, false, 8, [.func], .func, false⟩ | false => tyNone)))
       | false => (match Nat.blt t 97 with
        | true => (match Nat.beq t 95 with | true => ⟨1, false, 24, [.seq 102], .slice 102, false⟩ | false => tyNone)
        | false => (match Nat.blt t 99 with
         | true => (match Nat.beq t 97 with | true => ⟨1, false, 8, [.func], .func, false⟩ | false => tyNone)
         | false => (match Nat.beq t 99 with | true => ⟨1, false, 8, [.func], .func, false⟩ | false => tyNone)))))
     | false => (match Nat.blt t 106 with
      | true => (match Nat.blt t 103 with
       | true => (match Nat.blt t 101 with
        | true => (match Nat.beq t 100 with | true => ⟨1, false, 8, [.func], .func, false⟩ | false => tyNone)
        | false => (match Nat.blt t 102 with
         | true => (match Nat.beq t 101 with | true => ⟨3, true, 32, [.int .i64, .str, .int .i64], .struct [(0, 1, false), (1, 1, false), (2, 1, false)], true⟩ | false => tyNone)
         | false => (match Nat.beq t 102 with | true => ⟨3, true, 32, [.int .i64, .str, .int .i64], .struct [(0, 1, false), (1, 1, false), (2, 1, false)], true⟩ | false => tyNone)))
       | false => (match Nat.blt t 104 with
        | true => (match Nat.beq t 103 with | true => ⟨1, false, 24, [.seq 165], .slice 165, false⟩ | false => tyNone)
        | false => (match Nat.blt t 105 with
         | true => (match Nat.beq t 104 with | true => ⟨1, false, 24, [.seq 155], .slice 155, false⟩ | false => tyNone)
         | false => (match Nat.beq t 105 with | true => ⟨5, true, 80, [.str, .seq 165, .int .i64, .seq 155, .int .i64], .struct [(0, 1, false), (1, 1, false), (2, 1, false), (3, 1, false), (4, 1, false)], false⟩ | false => tyNone))))
      | false => (match Nat.blt t 111 with
       | true => (match Nat.blt t 108 with
        | true => (match Nat.beq t 106 with | true => ⟨5, true, 80, [.str, .seq 165, .int .i64, .seq 155, .int .i64], .struct [(0, 1, false), (1, 1, false), (2, 1, false), (3, 1, false), (4, 1, false)], false⟩ | false => tyNone)
        | false => (match Nat.blt t 109 with
         | true => (match Nat.beq t 108 with | true => ⟨1, false, 8, [.func], .func, false⟩ | false => tyNone)
         | false => (match Nat.beq t 109 with | true => ⟨1, false, 8, [.func], .func, false⟩ | false => tyNone)))
       | false => (match Nat.blt t 114 with
        | true => (match Nat.blt t 112 with
         | true => (match Nat.beq t 111 with | true => ⟨1, false, 8, [.func], .func, false⟩ | false => tyNone)
         | false => (match Nat.beq t 112 with | true => ⟨1, false, 8, [.func], .func, false⟩ | false => tyNone))
        | false => (match Nat.blt t 115 with
         | true => (match Nat.beq t 114 with | true => ⟨1, false, 8, [.func], .func, false⟩ | false => tyNone)
         | false => (match Nat.beq t 115 with | true => ⟨1, false, 8, [.func], .func, false⟩ | false => tyNone))))))))
  | false => (match Nat.blt t 171 with
   | true => (match Nat.blt t 145 with
    | true => (match Nat.blt t 130 with
     | true => (match Nat.blt t 124 with
      | true => (match Nat.blt t 119 with
       | true => (match Nat.blt t 117 with
        | true => (match Nat.beq t 116 with | true => ⟨1, false, 8, [.func], .func, false⟩ | false => tyNone)
        | false => (match Nat.blt t 118 with
         | true => (match Nat.beq t 117 with | true => ⟨1, false, 8, [.func], .func, false⟩ | false => tyNone)
         | false => (match Nat.beq t 118 with | true => ⟨1, false, 8, [.func], .func, false⟩ | false => tyNone)))
       | false => (match Nat.blt t 121 with
        | true => (match Nat.beq t 119 with | true => ⟨1, false, 8, [.func], .func, false⟩ | false => tyNone)
        | false => (match Nat.blt t 123 with
         | true => (match Nat.beq t 121 with | true => ⟨1, false, 8, [.func], .func, false⟩ | false => tyNone)
         | false => (match Nat.beq t 123 with | true => ⟨1, false, 8, [.func], .func, false⟩ | false => tyNone))))
      | false => (match Nat.blt t 127 with
       | true => (match Nat.blt t 125 with
        | true => (match Nat.beq t 124 with | true => ⟨1, false, 24, [.seq 4], .slice 4, false⟩ | false => tyNone)
        | false => (match Nat.blt t 126 with
         | true => (match Nat.beq t 125 with | true => ⟨1, false, 8, [.func], .func, false⟩ | false => tyNone)
         | false => (match Nat.beq t 126 with | true => ⟨1, false, 8, [.func], .func, false⟩ | false => tyNone)))
       | false => (match Nat.blt t 128 with
        | true => (match Nat.beq t 127 with | true => ⟨1, false, 8, [.func], .func, false⟩ | false => tyNone)
        | false => (match Nat.blt t 129 with
         | true => (match Nat.beq t 128 with | true => ⟨1, false, 8, [.func], .func, false⟩ | false => tyNone)
         | false => (match Nat.beq t 129 with | true => ⟨2, true, 32, [.str, .str], .array 2 9, false⟩ | false => tyNone)))))
     | false => (match Nat.blt t 137 with
      | true => (match Nat.blt t 134 with
       | true => (match Nat.blt t 131 with
        | true => (match Nat.beq t 130 with | true => ⟨1, false, 8, [.func], .func, false⟩ | false => tyNone)
        | false => (match Nat.blt t 133 with
         | true => (match Nat.beq t 131 with | true => ⟨1, false, 24, [.seq 2], .slice 2, false⟩ | false => tyNone)
         | false => (match Nat.beq t 133 with | true => ⟨1, false, 8, [.func], .func, false⟩ | false => tyNone)))
       | false => (match Nat.blt t 135 with
        | true => (match Nat.beq t 134 with | true => ⟨2, true, 16, [.int .i64, .int .i64], .struct [(0, 1, false), (1, 1, false)], true⟩ | false => tyNone)
        | false => (match Nat.blt t 136 with
         | true => (match Nat.beq t 135 with | true => ⟨2, true, 16, [.int .i64, .int .i64], .struct [(0, 1, false), (1, 1, false)], true⟩ | false => tyNone)
         | false => (match Nat.beq t 136 with | true => ⟨8, true, 64, [.int .i64, .int .i64, .int .i64, .int .i64, .int .i64, .int .i64, .int .i64, .int .i64], .array 4 135, false⟩ | false => tyNone))))
      | false => (match Nat.blt t 141 with
       | true => (match Nat.blt t 138 with
        | true => (match Nat.beq t 137 with | true => ⟨1, false, 8, [.func], .func, false⟩ | false => tyNone)
        | false => (match Nat.blt t 139 with
         | true => (match Nat.beq t 138 with | true => ⟨1, false, 8, [.func], .func, false⟩ | false => tyNone)
         | false => (match Nat.beq t 139 with | true => ⟨1, false, 8, [.func], .func, false⟩ | false => tyNone)))
       | false => (match Nat.blt t 143 with
        | true => (match Nat.blt t 142 with
         | true => (match Nat.beq t 141 with | true => ⟨1, false, 8, [.func], .func, false⟩ | false => tyNone)
         | false => (match Nat.beq t 142 with | true => ⟨1, false, 8, [.func], .func, false⟩ | false => tyNone))
        | false => (match Nat.blt t 144 with
         | true => (match Nat.beq t 143 with | true => ⟨1, false, 8, [.func], .func, false⟩ | false => tyNone)
         | false => (match Nat.beq t 144 with | true => ⟨1, false, 8, [.ptr], .ptr 146, false⟩ | false => tyNone))))))
    | false => (match Nat.blt t 158 with
     | true => (match Nat.blt t 152 with
      | true => (match Nat.blt t 149 with
       | true => (match Nat.blt t 146 with
        | true => (match Nat.beq t 145 with | true => ⟨2, true, 32, [.seq 102, .int .i64], .struct [(0, 1, false), (1, 1, false)], false⟩ | false => tyNone)
        | false => (match Nat.blt t 147 with
         | true => (match Nat.beq t 146 with | true => ⟨2, true, 32, [.seq 102, .int .i64], .struct [(0, 1, false), (1, 1, false)], false⟩ | false => tyNone)
         | false => (match Nat.beq t 147 with | true => ⟨1, false, 8, [.func], .func, false⟩ | false => tyNone)))
       | false => (match Nat.blt t 150 with
        | true => (match Nat.beq t 149 with | true => ⟨1, false, 8, [.func], .func, false⟩ | false => tyNone)
        | false => (match Nat.blt t 151 with
         | true => (match Nat.beq t 150 with | true => ⟨1, false, 8, [.func], .func, false⟩ | false => tyNone)
         | false => (match Nat.beq t 151 with | true => ⟨1, false, 8, [.func], .func, false⟩ | false => tyNone))))
      | false => (match Nat.blt t 155 with
       | true => (match Nat.blt t 153 with
        | true => (match Nat.beq t 152 with | true => ⟨1, false, 8, [.ptr], .ptr 155, false⟩ | false => tyNone)
        | false => (match Nat.blt t 154 with
         | true => (match Nat.beq t 153 with | true => ⟨1, false, 24, [.seq 258], .slice 258, false⟩ | false => tyNone)
         | false => (match Nat.beq t 154 with | true => ⟨8, true, 128, [.int .i64, .int .i64, .str, .int .i64, .str, .seq 258, .seq 155, .seq 155], .struct [(0, 1, false), (1, 1, false), (2, 1, false), (3, 1, false), (4, 1, false), (5, 1, false), (6, 1, false), (7, 1, false)], false⟩ | false => tyNone)))
       | false => (match Nat.blt t 156 with
        | true => (match Nat.beq t 155 with | true => ⟨8, true, 128, [.int .i64, .int .i64, .str, .int .i64, .str, .seq 258, .seq 155, .seq 155], .struct [(0, 1, false), (1, 1, false), (2, 1, false), (3, 1, false), (4, 1, false), (5, 1, false), (6, 1, false), (7, 1, false)], false⟩ | false => tyNone)
        | false => (match Nat.blt t 157 with
         | true => (match Nat.beq t 156 with | true => ⟨1, false, 8, [.func], .func, false⟩ | false => tyNone)
         | false => (match Nat.beq t 157 with | true => ⟨1, false, 8, [.map], .map 9 67, false⟩ | false => tyNone)))))
     | false => (match Nat.blt t 164 with
      | true => (match Nat.blt t 161 with
       | true => (match Nat.blt t 159 with
        | true => (match Nat.beq t 158 with | true => ⟨1, false, 8, [.func], .func, false⟩ | false => tyNone)
        | false => (match Nat.blt t 160 with
         | true => (match Nat.beq t 159 with | true => ⟨1, false, 8, [.func], .func, false⟩ | false => tyNone)
         | false => (match Nat.beq t 160 with | true => ⟨1, false, 8, [.func], .func, false⟩ | false => tyNone)))
       | false => (match Nat.blt t 162 with
        | true => (match Nat.beq t 161 with | true => ⟨1, false, 8, [.func], .func, false⟩ | false => tyNone)
        | false => (match Nat.blt t 163 with
         | true => (match Nat.beq t 162 with | true => ⟨1, false, 8, [.func], .func, false⟩ | false => tyNone)
         | false => (match Nat.beq t 163 with | true => ⟨1, false, 8, [.func], .func, false⟩ | false => tyNone))))
      | false => (match Nat.blt t 167 with
       | true => (match Nat.blt t 165 with
        | true => (match Nat.beq t 164 with | true => ⟨2, true, 24, [.str, .int .i64], .struct [(0, 1, false), (1, 1, false)], true⟩ | false => tyNone)
        | false => (match Nat.blt t 166 with
         | true => (match Nat.beq t 165 with | true => ⟨2, true, 24, [.str, .int .i64], .struct [(0, 1, false), (1, 1, false)], true⟩ | false => tyNone)
         | false => (match Nat.beq t 166 with | true => ⟨1, false, 8, [.func], .func, false⟩ | false => tyNone)))
       | false => (match Nat.blt t 169 with
        | true => (match Nat.blt t 168 with
         | true => (match Nat.beq t 167 with | true => ⟨1, false, 8, [.func], .func, false⟩ | false => tyNone)
         | false => (match Nat.beq t 168 with | true => ⟨1, false, 8, [.func], .func, false⟩ | false => tyNone))
        | false => (match Nat.blt t 170 with
         | true => (match Nat.beq t 169 with | true => ⟨1, false, 8, [.func], .func, false⟩ | false => tyNone)
         | false => (match Nat.beq t 170 with | true => ⟨3, true, 56, [.seq 67, .seq 76, .int .i64], .struct [(0, 1, false), (1, 1, false), (2, 1, false)], false⟩ | false => tyNone)))))))
   | false => (match Nat.blt t 199 with
    | true => (match Nat.blt t 184 with
     | true => (match Nat.blt t 178 with
      | true => (match Nat.blt t 175 with
       | true => (match Nat.blt t 172 with
        | true => (match Nat.beq t 171 with | true => ⟨3, true, 56, [.seq 67, .seq 76, .int .i64], .struct [(0, 1, false), (1, 1, false), (2, 1, false)], false⟩ | false => tyNone)
        | false => (match Nat.blt t 173 with
         | true => (match Nat.beq t 172 with | true => ⟨1, false, 8, [.func], .func, false⟩ | false => tyNone)
         | false => (match Nat.beq t 173 with | true => ⟨1, false, 8, [.func], .func, false⟩ | false => tyNone)))
       | false => (match Nat.blt t 176 with
        | true => (match Nat.beq t 175 with | true => ⟨1, false, 8, [.func], .func, false⟩ | false => tyNone)
        | false => (match Nat.blt t 177 with
         | true => (match Nat.beq t 176 with | true => ⟨1, false, 24, [.seq 173], .slice 173, false⟩ | false => tyNone)
         | false => (match Nat.beq t 177 with | true => ⟨1, false, 8, [.func], .func, false⟩ | false => tyNone))))
      | false => (match Nat.blt t 181 with
       | true => (match Nat.blt t 179 with
        | true => (match Nat.beq t 178 with | true => ⟨1, false, 8, [.func], .func, false⟩ | false => tyNone)
        | false => (match Nat.blt t 180 with
         | true => (match Nat.beq t 179 with | true => ⟨1, false, 8, [.func], .func, false⟩ | false => tyNone)
         | false => (match Nat.beq t 180 with | true => ⟨1, false, 8, [.func], .func, false⟩ | false => tyNone)))
       | false => (match Nat.blt t 182 with
        | true => (match Nat.beq t 181 with | true => ⟨1, false, 8, [.func], .func, false⟩ | false => tyNone)
        | false => (match Nat.blt t 183 with
         | true => (match Nat.beq t 182 with | true => ⟨1, false, 24, [.seq 65], .slice 65, false⟩ | false => tyNone)
         | false => (match Nat.beq t 183 with | true => ⟨1, false, 8, [.func], .func, false⟩ | false => tyNone)))))
     | false => (match Nat.blt t 191 with
      | true => (match Nat.blt t 187 with
       | true => (match Nat.blt t 185 with
        | true => (match Nat.beq t 184 with | true => ⟨1, false, 8, [.func], .func, false⟩ | false => tyNone)
        | false => (match Nat.blt t 186 with
         | true => (match Nat.beq t 185 with | true => ⟨1, false, 8, [.func], .func, false⟩ | false => tyNone)
         | false => (match Nat.beq t 186 with | true => ⟨1, false, 8, [.func], .func, false⟩ | false => tyNone)))
       | false => (match Nat.blt t 188 with
        | true => (match Nat.beq t 187 with | true => ⟨1, false, 8, [.func], .func, false⟩ | false => tyNone)
        | false => (match Nat.blt t 189 with
         | true => (match Nat.beq t 188 with | true => ⟨23, true, 368, [.str, .str, .str, .str, .str, .str, .str, .str, .str, .str, .str, .str, .str, .str, .str, .str, .str, .str, .str, .str, .str, .str, .str], .array 23 9, false⟩ | false => tyNone)
         | false => (match Nat.beq t 189 with | true => ⟨1, false, 8, [.func], .func, false⟩ | false => tyNone))))
      | false => (match Nat.blt t 195 with
       | true => (match Nat.blt t 193 with
        | true => (match Nat.beq t 191 with | true => ⟨1, false, 8, [.func], .func, false⟩ | false => tyNone)
        | false => (match Nat.blt t 194 with
         | true => (match Nat.beq t 193 with | true => ⟨1, false, 8, [.func], .func, false⟩ | false => tyNone)
         | false => (match Nat.beq t 194 with | true => ⟨1, false, 8, [.func], .func, false⟩ | false => tyNone)))
       | false => (match Nat.blt t 197 with
        | true => (match Nat.blt t 196 with
         | true => (match Nat.beq t 195 with | true => ⟨1, false, 8, [.func], .func, false⟩ | false => tyNone)
         | false => (match Nat.beq t 196 with | true => ⟨1, false, 8, [.func], .func, false⟩ | false => tyNone))
        | false => (match Nat.blt t 198 with
         | true => (match Nat.beq t 197 with | true => ⟨1, false, 8, [.func], .func, false⟩ | false => tyNone)
         | false => (match Nat.beq t 198 with | true => ⟨1, false, 8, [.func], .func, false⟩ | false => tyNone))))))
    | false => (match Nat.blt t 212 with
     | true => (match Nat.blt t 205 with
      | true => (match Nat.blt t 202 with
       | true => (match Nat.blt t 200 with
        | true => (match Nat.beq t 199 with | true => ⟨1, false, 8, [.ptr], .ptr 247, false⟩ | false => tyNone)
        | false => (match Nat.blt t 201 with
         | true => (match Nat.beq t 200 with | true => ⟨1, false, 8, [.func], .func, false⟩ | false => tyNone)
         | false => (match Nat.beq t 201 with | true => ⟨1, false, 8, [.func], .func, false⟩ | false => tyNone)))
       | false => (match Nat.blt t 203 with
        | true => (match Nat.beq t 202 with | true => ⟨1, false, 8, [.func], .func, false⟩ | false => tyNone)
        | false => (match Nat.blt t 204 with
         | true => (match Nat.beq t 203 with | true => ⟨1, false, 8, [.func], .func, false⟩ | false => tyNone)
         | false => (match Nat.beq t 204 with | true => ⟨1, false, 8, [.func], .func, false⟩ | false => tyNone))))
      | false => (match Nat.blt t 208 with
       | true => (match Nat.blt t 206 with
        | true => (match Nat.beq t 205 with | true => ⟨1, false, 8, [.ptr], .ptr 208, false⟩ | false => tyNone)
        | false => (match Nat.blt t 207 with
         | true => (match Nat.beq t 206 with | true => ⟨1, false, 8, [.map], .map 9 3, false⟩ | false => tyNone)
         | false => (match Nat.beq t 207 with | true => ⟨2, true, 32, [.seq 76, .map], .struct [(0, 1, false), (1, 1, false)], false⟩ | false => tyNone)))
       | false => (match Nat.blt t 210 with
        | true => (match Nat.blt t 209 with
         | true => (match Nat.beq t 208 with | true => ⟨2, true, 32, [.seq 76, .map], .struct [(0, 1, false), (1, 1, false)], false⟩ | false => tyNone)
         | false => (match Nat.beq t 209 with | true => ⟨1, false, 8, [.func], .func, false⟩ | false => tyNone))
        | false => (match Nat.blt t 211 with
         | true => (match Nat.beq t 210 with | true => ⟨1, false, 8, [.func], .func, false⟩ | false => tyNone)
         | false => (match Nat.beq t 211 with | true => ⟨1, false, 8, [.func], .func, false⟩ | false => tyNone)))))
     | false => (match Nat.blt t 218 with
      | true => (match Nat.blt t 215 with
       | true => (match Nat.blt t 213 with
        | true => (match Nat.beq t 212 with | true => ⟨1, false, 8, [.func], .func, false⟩ | false => tyNone)
        | false => (match Nat.blt t 214 with
         | true => (match Nat.beq t 213 with | true => ⟨1, false, 8, [.func], .func, false⟩ | false => tyNone)
         | false => (match Nat.beq t 214 with | true => ⟨1, false, 8, [.func], .func, false⟩ | false => tyNone)))
       | false => (match Nat.blt t 216 with
        | true => (match Nat.beq t 215 with | true => ⟨1, false, 8, [.ptr], .ptr 217, false⟩ | false => tyNone)
        | false => (match Nat.blt t 217 with
         | true => (match Nat.beq t 216 with | true => ⟨11, true, 168, [.ptr, .int .i64, .int .i64, .str, .int .i64, .str, .seq 258, .seq 155, .seq 155, .seq 155, .int .i64], .struct [(0, 1, false), (1, 8, true), (9, 1, false), (10, 1, false)], false⟩ | false => tyNone)
         | false => (match Nat.beq t 217 with | true => ⟨11, true, 168, [.ptr, .int .i64, .int .i64, .str, .int .i64, .str, .seq 258, .seq 155, .seq 155, .seq 155, .int .i64], .struct [(0, 1, false), (1, 8, true), (9, 1, false), (10, 1, false)], false⟩ | false => tyNone))))
      | false => (match Nat.blt t 222 with
       | true => (match Nat.blt t 220 with
        | true => (match Nat.beq t 218 with | true => ⟨1, false, 8, [.func], .func, false⟩ | false => tyNone)
        | false => (match Nat.blt t 221 with
         | true => (match Nat.beq t 220 with | true => ⟨1, false, 8, [.func], .func, false⟩ | false => tyNone)
         | false => (match Nat.beq t 221 with | true => ⟨1, false, 8, [.func], .func, false⟩ | false => tyNone)))
       | false => (match Nat.blt t 224 with
        | true => (match Nat.blt t 223 with
         | true => (match Nat.beq t 222 with | true => ⟨1, false, 24, [.seq 124], .slice 124, false⟩ | false => tyNone)
         | false => (match Nat.beq t 223 with | true => ⟨1, false, 8, [.func], .func, false⟩ | false => tyNone))
        | false => (match Nat.blt t 225 with
         | true => (match Nat.beq t 224 with | true => ⟨1, false, 8, [.func], .func, false⟩ | false => tyNone)
         | false => (match Nat.beq t 225 with | true => ⟨1, false, 8, [.func], .func, false⟩ | false => tyNone)))))))))
 | false => (match Nat.blt t 338 with
  | true => (match Nat.blt t 283 with
   | true => (match Nat.blt t 255 with
    | true => (match Nat.blt t 240 with
     | true => (match Nat.blt t 232 with
      | true => (match Nat.blt t 229 with
       | true => (match Nat.blt t 227 with
        | true => (match Nat.beq t 226 with | true => ⟨1, false, 8, [.func], .func, false⟩ | false => tyNone)
        | false => (match Nat.blt t 228 with
         | true => (match Nat.beq t 227 with | true => ⟨1, false, 8, [.func], .func, false⟩ | false => tyNone)
         | false => (match Nat.beq t 228 with | true => ⟨24, true, 24, [.int .u8, .int .u8, .int .u8, .int .u8, .int .u8, .int .u8, .int .u8, .int .u8, .int .u8, .int .u8, .int .u8, .int .u8, .int .u8, .int .u8, .int .u8, .int .u8, .int .u8, .int .u8, .int .u8, .int .u8, .int .u8, .int .u8, .int .u8, .int .u8], .array 24 5, false⟩ | false => tyNone)))
       | false => (match Nat.blt t 230 with
        | true => (match Nat.beq t 229 with | true => ⟨1, false, 8, [.int .u64], .int .u64, false⟩ | false => tyNone)
        | false => (match Nat.blt t 231 with
         | true => (match Nat.beq t 230 with | true => ⟨1, false, 8, [.func], .func, false⟩ | false => tyNone)
         | false => (match Nat.beq t 231 with | true => ⟨1, false, 8, [.func], .func, false⟩ | false => tyNone))))
      | false => (match Nat.blt t 236 with
       | true => (match Nat.blt t 234 with
        | true => (match Nat.beq t 232 with | true => ⟨1, false, 24, [.seq 5], .slice 5, false⟩ | false => tyNone)
        | false => (match Nat.blt t 235 with
         | true => (match Nat.beq t 234 with | true => ⟨1, false, 8, [.func], .func, false⟩ | false => tyNone)
         | false => (match Nat.beq t 235 with | true => ⟨1, false, 8, [.func], .func, false⟩ | false => tyNone)))
       | false => (match Nat.blt t 237 with
        | true => (match Nat.beq t 236 with | true => ⟨15, true, 240, [.str, .str, .str, .str, .str, .str, .str, .str, .str, .str, .str, .str, .str, .str, .str], .array 15 9, false⟩ | false => tyNone)
        | false => (match Nat.blt t 238 with
         | true => (match Nat.beq t 237 with | true => ⟨1, false, 16, [.iface], .iface, false⟩ | false => tyNone)
         | false => (match Nat.beq t 238 with | true => ⟨1, false, 16, [.iface], .iface, false⟩ | false => tyNone)))))
     | false => (match Nat.blt t 248 with
      | true => (match Nat.blt t 244 with
       | true => (match Nat.blt t 241 with
        | true => (match Nat.beq t 240 with | true => ⟨1, false, 8, [.func], .func, false⟩ | false => tyNone)
        | false => (match Nat.blt t 243 with
         | true => (match Nat.beq t 241 with | true => ⟨1, false, 8, [.func], .func, false⟩ | false => tyNone)
         | false => (match Nat.beq t 243 with | true => ⟨2, true, 16, [.int .i64, .int .i64], .struct [(0, 1, false), (1, 1, false)], true⟩ | false => tyNone)))
       | false => (match Nat.blt t 246 with
        | true => (match Nat.beq t 244 with | true => ⟨2, true, 16, [.int .i64, .int .i64], .struct [(0, 1, false), (1, 1, false)], true⟩ | false => tyNone)
        | false => (match Nat.blt t 247 with
         | true => (match Nat.beq t 246 with | true => ⟨2, true, 32, [.seq 102, .int .i64], .struct [(0, 1, false), (1, 1, false)], false⟩ | false => tyNone)
         | false => (match Nat.beq t 247 with | true => ⟨2, true, 32, [.seq 102, .int .i64], .struct [(0, 1, false), (1, 1, false)], false⟩ | false => tyNone))))
      | false => (match Nat.blt t 251 with
       | true => (match Nat.blt t 249 with
        | true => (match Nat.beq t 248 with | true => ⟨1, false, 8, [.func], .func, false⟩ | false => tyNone)
        | false => (match Nat.blt t 250 with
         | true => (match Nat.beq t 249 with | true => ⟨1, false, 8, [.func], .func, false⟩ | false => tyNone)
         | false => (match Nat.beq t 250 with | true => ⟨1, false, 8, [.func], .func, false⟩ | false => tyNone)))
       | false => (match Nat.blt t 253 with
        | true => (match Nat.blt t 252 with
         | true => (match Nat.beq t 251 with | true => ⟨1, false, 8, [.func], .func, false⟩ | false => tyNone)
         | false => (match Nat.beq t 252 with | true => ⟨1, false, 8, [.func], .func, false⟩ | false => tyNone))
        | false => (match Nat.blt t 254 with
         | true => (match Nat.beq t 253 with | true => ⟨1, false, 8, [.func], .func, false⟩ | false => tyNone)
         | false => (match Nat.beq t 254 with | true => ⟨1, false, 8, [.func], .func, false⟩ | false => tyNone))))))
    | false => (match Nat.blt t 268 with
     | true => (match Nat.blt t 262 with
      | true => (match Nat.blt t 258 with
       | true => (match Nat.blt t 256 with
        | true => (match Nat.beq t 255 with | true => ⟨1, false, 8, [.func], .func, false⟩ | false => tyNone)
        | false => (match Nat.blt t 257 with
         | true => (match Nat.beq t 256 with | true => ⟨1, false, 8, [.func], .func, false⟩ | false => tyNone)
         | false => (match Nat.beq t 257 with | true => ⟨5, true, 64, [.int .i64, .int .i64, .int .i64, .str, .seq 258], .struct [(0, 1, false), (1, 1, false), (2, 1, false), (3, 1, false), (4, 1, false)], false⟩ | false => tyNone)))
       | false => (match Nat.blt t 260 with
        | true => (match Nat.beq t 258 with | true => ⟨5, true, 64, [.int .i64, .int .i64, .int .i64, .str, .seq 258], .struct [(0, 1, false), (1, 1, false), (2, 1, false), (3, 1, false), (4, 1, false)], false⟩ | false => tyNone)
        | false => (match Nat.blt t 261 with
         | true => (match Nat.beq t 260 with | true => ⟨1, false, 8, [.func], .func, false⟩ | false => tyNone)
         | false => (match Nat.beq t 261 with | true => ⟨1, false, 8, [.func], .func, false⟩ | false => tyNone))))
      | false => (match Nat.blt t 265 with
       | true => (match Nat.blt t 263 with
        | true => (match Nat.beq t 262 with | true => ⟨1, false, 8, [.func], .func, false⟩ | false => tyNone)
        | false => (match Nat.blt t 264 with
         | true => (match Nat.beq t 263 with | true => ⟨1, false, 8, [.func], .func, false⟩ | false => tyNone)
         | false => (match Nat.beq t 264 with | true => ⟨1, false, 8, [.func], .func, false⟩ | false => tyNone)))
       | false => (match Nat.blt t 266 with
        | true => (match Nat.beq t 265 with | true => ⟨1, false, 8, [.func], .func, false⟩ | false => tyNone)
        | false => (match Nat.blt t 267 with
         | true => (match Nat.beq t 266 with | true => ⟨1, false, 8, [.func], .func, false⟩ | false => tyNone)
         | false => (match Nat.beq t 267 with | true => ⟨1, false, 8, [.func], .func, false⟩ | false => tyNone)))))
     | false => (match Nat.blt t 276 with
      | true => (match Nat.blt t 273 with
       | true => (match Nat.blt t 270 with
        | true => (match Nat.beq t 268 with | true => ⟨1, false, 8, [.func], .func, false⟩ | false => tyNone)
        | false => (match Nat.blt t 272 with
         | true => (match Nat.beq t 270 with | true => ⟨1, false, 8, [.func], .func, false⟩ | false => tyNone)
         | false => (match Nat.beq t 272 with | true => ⟨1, false, 8, [.func], .func, false⟩ | false => tyNone)))
       | false => (match Nat.blt t 274 with
        | true => (match Nat.beq t 273 with | true => ⟨1, false, 8, [.func], .func, false⟩ | false => tyNone)
        | false => (match Nat.blt t 275 with
         | true => (match Nat.beq t 274 with | true => ⟨1, false, 8, [.func], .func, false⟩ | false => tyNone)
         | false => (match Nat.beq t 275 with | true => ⟨1, false, 8, [.func], .func, false⟩ | false => tyNone))))
      | false => (match Nat.blt t 279 with
       | true => (match Nat.blt t 277 with
        | true => (match Nat.beq t 276 with | true => ⟨1, false, 8, [.func], .func, false⟩ | false => tyNone)
        | false => (match Nat.blt t 278 with
         | true => (match Nat.beq t 277 with | true => ⟨1, false, 8, [.func], .func, false⟩ | false => tyNone)
         | false => (match Nat.beq t 278 with | true => ⟨1, false, 8, [.func], .func, false⟩ | false => tyNone)))
       | false => (match Nat.blt t 281 with
        | true => (match Nat.blt t 280 with
         | true => (match Nat.beq t 279 with | true => ⟨1, false, 8, [.func], .func, false⟩ | false => tyNone)
         | false => (match Nat.beq t 280 with | true => ⟨20, true, 160, [.int .u64, .int .u64, .int .u64, .int .u64, .int .u64, .int .u64, .int .u64, .int .u64, .int .u64, .int .u64, .int .u64, .int .u64, .int .u64, .int .u64, .int .u64, .int .u64, .int .u64, .int .u64, .int .u64, .int .u64], .array 20 229, false⟩ | false => tyNone))
        | false => (match Nat.blt t 282 with
         | true => (match Nat.beq t 281 with | true => ⟨1, false, 4, [.int .u32], .int .u32, false⟩ | false => tyNone)
         | false => (match Nat.beq t 282 with | true => ⟨65, true, 65, [.int .u8, .int .u8, .int .u8, .int .u8, .int .u8, .int .u8, .int .u8, .int .u8, .int .u8, .int .u8, .int .u8, .int .u8, .int .u8, .int .u8, .int .u8, .int .u8, .int .u8, .int .u8, .int .u8, .int .u8, .int .u8, .int .u8, .int .u8, .int .u8, .int .u8, .int .u8, .int .u8, .int .u8, .int .u8, .int .u8, .int .u8, .int .u8, .int .u8, .int .u8, .int .u8, .int .u8, .int .u8, .int .u8, .int .u8, .int .u8, .int .u8, .int .u8, .int .u8, .int .u8, .int .u8, .int .u8, .int .u8, .int .u8, .int .u8, .int .u8, .int .u8, .int .u8, .int .u8, .int .u8, .int .u8, .int .u8, .int .u8, .int .u8, .int .u8, .int .u8, .int .u8, .int .u8, .int .u8, .int .u8, .int .u8], .array 65 5, false⟩ | false => tyNone)))))))
   | false => (match Nat.blt t 309 with
    | true => (match Nat.blt t 295 with
     | true => (match Nat.blt t 289 with
      | true => (match Nat.blt t 286 with
       | true => (match Nat.blt t 284 with
        | true => (match Nat.beq t 283 with | true => ⟨1, false, 8, [.int .u64], .int .u64, false⟩ | false => tyNone)
        | false => (match Nat.blt t 285 with
         | true => (match Nat.beq t 284 with | true => ⟨1, false, 8, [.func], .func, false⟩ | false => tyNone)
         | false => (match Nat.beq t 285 with | true => ⟨1, false, 8, [.func], .func, false⟩ | false => tyNone)))
       | false => (match Nat.blt t 287 with
        | true => (match Nat.beq t 286 with | true => ⟨1, false, 8, [.func], .func, false⟩ | false => tyNone)
        | false => (match Nat.blt t 288 with
         | true => (match Nat.beq t 287 with | true => ⟨4, true, 64, [.str, .str, .str, .str], .array 4 9, false⟩ | false => tyNone)
         | false => (match Nat.beq t 288 with | true => ⟨1, false, 24, [.seq 292], .slice 292, false⟩ | false => tyNone))))
      | false => (match Nat.blt t 292 with
       | true => (match Nat.blt t 290 with
        | true => (match Nat.beq t 289 with | true => ⟨1, false, 8, [.func], .func, false⟩ | false => tyNone)
        | false => (match Nat.blt t 291 with
         | true => (match Nat.beq t 290 with | true => ⟨1, false, 8, [.func], .func, false⟩ | false => tyNone)
         | false => (match Nat.beq t 291 with | true => ⟨2, true, 24, [.str, .func], .struct [(0, 1, false), (1, 1, false)], false⟩ | false => tyNone)))
       | false => (match Nat.blt t 293 with
        | true => (match Nat.beq t 292 with | true => ⟨2, true, 24, [.str, .func], .struct [(0, 1, false), (1, 1, false)], false⟩ | false => tyNone)
        | false => (match Nat.blt t 294 with
         | true => (match Nat.beq t 293 with | true => ⟨1, false, 8, [.func], .func, false⟩ | false => tyNone)
         | false => (match Nat.beq t 294 with | true => ⟨1, false, 8, [.func], .func, false⟩ | false => tyNone)))))
     | false => (match Nat.blt t 302 with
      | true => (match Nat.blt t 299 with
       | true => (match Nat.blt t 296 with
        | true => (match Nat.beq t 295 with | true => ⟨1, false, 8, [.func], .func, false⟩ | false => tyNone)
        | false => (match Nat.blt t 297 with
         | true => (match Nat.beq t 296 with | true => ⟨256, true, 256, [.bool, .bool, .bool, .bool, .bool, .bool, .bool, .bool, .bool, .bool, .bool, .bool, .bool, .bool, .bool, .bool, .bool, .bool, .bool, .bool, .bool, .bool, .bool, .bool, .bool, .bool, .bool, .bool, .bool, .bool, .bool, .bool, .bool, .bool, .bool, .bool, .bool, .bool, .bool, .bool, .bool, .bool, .bool, .bool, .bool, .bool, .bool, .bool, .bool, .bool, .bool, .bool, .bool, .bool, .bool, .bool, .bool, .bool, .bool, .bool, .bool, .bool, .bool, .bool, .bool, .bool, .bool, .bool, .bool, .bool, .bool, .bool, .bool, .bool, .bool, .bool, .bool, .bool, .bool, .bool, .bool, .bool, .bool, .bool, .bool, .bool, .bool, .bool, .bool, .bool, .bool, .bool, .bool, .bool, .bool, .bool, .bool, .bool, .bool, .bool, .bool, .bool, .bool, .bool, .bool, .bool, .bool, .bool, .bool, .bool, .bool, .bool, .bool, .bool, .bool, .bool, .bool, .bool, .bool, .bool, .bool, .bool, .bool, .bool, .bool, .bool, .bool, .bool, .bool, .bool, .bool, .bool, .bool, .bool, .bool, .bool, .bool, .bool, .bool, .bool, .bool, .bool, .bool, .bool, .bool, .bool, .bool, .bool, .bool, .bool, .bool, .bool, .bool, .bool, .bool, .bool, .bool, .bool, .bool, .bool, .bool, .bool, .bool, .bool, .bool, .bool, .bool, .bool, .bool, .bool, .bool, .bool, .bool, .bool, .bool, .bool, .bool, .bool, .bool, .bool, .bool, .bool, .bool, .bool, .bool, .bool, .bool, .bool, .bool, .bool, .bool, .bool, .bool, .bool, .bool, .bool, .bool, .bool, .bool, .bool, .bool, .bool, .bool, .bool, .bool, .bool, .bool, .bool, .bool, .bool, .bool, .bool, .bool, .bool, .bool, .bool, .bool, .bool, .bool, .bool, .bool, .bool, .bool, .bool, .bool, .bool, .bool, .bool, .bool, .bool, .bool, .bool, .bool, .bool, .bool, .bool, .bool, .bool, .bool, .bool, .bool, .bool, .bool, .bool, .bool, .bool, .bool, .bool, .bool, .bool, .bool, .bool, .bool, .bool, .bool, .bool], .array 256 4, false⟩ | false => tyNone)
         | false => (match Nat.beq t 297 with | true => ⟨256, true, 256, [.bool, .bool, .bool, .bool, .bool, .bool, .bool, .bool, .bool, .bool, .bool, .bool, .bool, .bool, .bool, .bool, .bool, .bool, .bool, .bool, .bool, .bool, .bool, .bool, .bool, .bool, .bool, .bool, .bool, .bool, .bool, .bool, .bool, .bool, .bool, .bool, .bool, .bool, .bool, .bool, .bool, .bool, .bool, .bool, .bool, .bool, .bool, .bool, .bool, .bool, .bool, .bool, .bool, .bool, .bool, .bool, .bool, .bool, .bool, .bool, .bool, .bool, .bool, .bool, .bool, .bool, .bool, .bool, .bool, .bool, .bool, .bool, .bool, .bool, .bool, .bool, .bool, .bool, .bool, .bool, .bool, .bool, .bool, .bool, .bool, .bool, .bool, .bool, .bool, .bool, .bool, .bool, .bool, .bool, .bool, .bool, .bool, .bool, .bool, .bool, .bool, .bool, .bool, .bool, .bool, .bool, .bool, .bool, .bool, .bool, .bool, .bool, .bool, .bool, .bool, .bool, .bool, .bool, .bool, .bool, .bool, .bool, .bool, .bool, .bool, .bool, .bool, .bool, .bool, .bool, .bool, .bool, .bool, .bool, .bool, .bool, .bool, .bool, .bool, .bool, .bool, .bool, .bool, .bool, .bool, .bool, .bool, .bool, .bool, .bool, .bool, .bool, .bool, .bool, .bool, .bool, .bool, .bool, .bool, .bool, .bool, .bool, .bool, .bool, .bool, .bool, .bool, .bool, .bool, .bool, .bool, .bool, .bool, .bool, .bool, .bool, .bool, .bool, .bool, .bool, .bool, .bool, .bool, .bool, .bool, .bool, .bool, .bool, .bool, .bool, .bool, .bool, .bool, .bool, .bool, .bool, .bool, .bool, .bool, .bool, .bool, .bool, .bool, .bool, .bool, .bool, .bool, .bool, .bool, .bool, .bool, .bool, .bool, .bool, .bool, .bool, .bool, .bool, .bool, .bool, .bool, .bool, .bool, .bool, .bool, .bool, .bool, .bool, .bool, .bool, .bool, .bool, .bool, .bool, .bool, .bool, .bool, .bool, .bool, .bool, .bool, .bool, .bool, .bool, .bool, .bool, .bool, .bool, .bool, .bool, .bool, .bool, .bool, .bool, .bool, .bool], .array 256 4, false⟩ | false => tyNone)))
       | false => (match Nat.blt t 300 with
        | true => (match Nat.beq t 299 with | true => ⟨1, false, 8, [.func], .func, false⟩ | false => tyNone)
        | false => (match Nat.blt t 301 with
         | true => (match Nat.beq t 300 with | true => ⟨1, false, 8, [.func], .func, false⟩ | false => tyNone)
         | false => (match Nat.beq t 301 with | true => ⟨1, false, 8, [.ptr], .ptr 297, false⟩ | false => tyNone))))
      | false => (match Nat.blt t 305 with
       | true => (match Nat.blt t 303 with
        | true => (match Nat.beq t 302 with | true => ⟨1, false, 8, [.func], .func, false⟩ | false => tyNone)
        | false => (match Nat.blt t 304 with
         | true => (match Nat.beq t 303 with | true => ⟨1, false, 24, [.seq 306], .slice 306, false⟩ | false => tyNone)
         | false => (match Nat.beq t 304 with | true => ⟨1, false, 8, [.func], .func, false⟩ | false => tyNone)))
       | false => (match Nat.blt t 307 with
        | true => (match Nat.blt t 306 with
         | true => (match Nat.beq t 305 with | true => ⟨8, true, 24, [.bool, .bool, .bool, .bool, .bool, .bool, .int .i64, .int .i64], .struct [(0, 1, false), (1, 1, false), (2, 1, false), (3, 1, false), (4, 1, false), (5, 1, false), (6, 1, false), (7, 1, false)], true⟩ | false => tyNone)
         | false => (match Nat.beq t 306 with | true => ⟨8, true, 24, [.bool, .bool, .bool, .bool, .bool, .bool, .int .i64, .int .i64], .struct [(0, 1, false), (1, 1, false), (2, 1, false), (3, 1, false), (4, 1, false), (5, 1, false), (6, 1, false), (7, 1, false)], true⟩ | false => tyNone))
        | false => (match Nat.blt t 308 with
         | true => (match Nat.beq t 307 with | true => ⟨1, false, 8, [.func], .func, false⟩ | false => tyNone)
         | false => (match Nat.beq t 308 with | true => ⟨1, false, 8, [.func], .func, false⟩ | false => tyNone))))))
    | false => (match Nat.blt t 322 with
     | true => (match Nat.blt t 316 with
      | true => (match Nat.blt t 313 with
       | true => (match Nat.blt t 310 with
        | true => (match Nat.beq t 309 with | true => ⟨1, false, 8, [.func], .func, false⟩ | false => tyNone)
        | false => (match Nat.blt t 312 with
         | true => (match Nat.beq t 310 with | true => ⟨1, false, 8, [.func], .func, false⟩ | false => tyNone)
         | false => (match Nat.beq t 312 with | true => ⟨1, false, 8, [.func], .func, false⟩ | false => tyNone)))
       | false => (match Nat.blt t 314 with
        | true => (match Nat.beq t 313 with | true => ⟨1, false, 8, [.func], .func, false⟩ | false => tyNone)
        | false => (match Nat.blt t 315 with
         | true => (match Nat.beq t 314 with | true => ⟨1, false, 8, [.func], .func, false⟩ | false => tyNone)
         | false => (match Nat.beq t 315 with | true => ⟨2, true, 32, [.seq 76, .int .i64], .struct [(0, 1, false), (1, 1, false)], false⟩ | false => tyNone))))
      | false => (match Nat.blt t 319 with
       | true => (match Nat.blt t 317 with
        | true => (match Nat.beq t 316 with | true => ⟨2, true, 32, [.seq 76, .int .i64], .struct [(0, 1, false), (1, 1, false)], false⟩ | false => tyNone)
        | false => (match Nat.blt t 318 with
         | true => (match Nat.beq t 317 with | true => ⟨1, false, 8, [.func], .func, false⟩ | false => tyNone)
         | false => (match Nat.beq t 318 with | true => ⟨1, false, 8, [.func], .func, false⟩ | false => tyNone)))
       | false => (match Nat.blt t 320 with
        | true => (match Nat.beq t 319 with | true => ⟨9, true, 72, [.func, .func, .func, .func, .func, .func, .func, .func, .func], .array 9 318, false⟩ | false => tyNone)
        | false => (match Nat.blt t 321 with
         | true => (match Nat.beq t 320 with | true => ⟨1, false, 8, [.func], .func, false⟩ | false => tyNone)
         | false => (match Nat.beq t 321 with | true => ⟨1, false, 8, [.func], .func, false⟩ | false => tyNone)))))
     | false => (match Nat.blt t 329 with
      | true => (match Nat.blt t 326 with
       | true => (match Nat.blt t 323 with
        | true => (match Nat.beq t 322 with | true => ⟨1, false, 8, [.func], .func, false⟩ | false => tyNone)
        | false => (match Nat.blt t 324 with
         | true => (match Nat.beq t 323 with | true => ⟨1, false, 8, [.func], .func, false⟩ | false => tyNone)
         | false => (match Nat.beq t 324 with | true => ⟨1, false, 8, [.int .i64], .int .i64, false⟩ | false => tyNone)))
       | false => (match Nat.blt t 327 with
        | true => (match Nat.beq t 326 with | true => ⟨1, false, 8, [.func], .func, false⟩ | false => tyNone)
        | false => (match Nat.blt t 328 with
         | true => (match Nat.beq t 327 with | true => ⟨1, false, 8, [.ptr], .ptr 361, false⟩ | false => tyNone)
         | false => (match Nat.beq t 328 with | true => ⟨1, false, 8, [.func], .func, false⟩ | false => tyNone))))
      | false => (match Nat.blt t 333 with
       | true => (match Nat.blt t 331 with
        | true => (match Nat.beq t 329 with | true => ⟨1, false, 8, [.func], .func, false⟩ | false => tyNone)
        | false => (match Nat.blt t 332 with
         | true => (match Nat.beq t 331 with | true => ⟨1, false, 8, [.func], .func, false⟩ | false => tyNone)
         | false => (match Nat.beq t 332 with | true => ⟨1, false, 8, [.func], .func, false⟩ | false => tyNone)))
       | false => (match Nat.blt t 336 with
        | true => (match Nat.blt t 335 with
         | true => (match Nat.beq t 333 with | true => ⟨1, false, 8, [.func], .func, false⟩ | false => tyNone)
         | false => (match Nat.beq t 335 with | true => ⟨1, false, 8, [.func], .func, false⟩ | false => tyNone))
        | false => (match Nat.blt t 337 with
         | true => (match Nat.beq t 336 with | true => ⟨1, false, 8, [.func], .func, false⟩ | false => tyNone)
         | false => (match Nat.beq t 337 with | true => ⟨256, true, 256, [.int .u8, .int .u8, .int .u8, .int .u8, .int .u8, .int .u8, .int .u8, .int .u8, .int .u8, .int .u8, .int .u8, .int .u8, .int .u8, .int .u8, .int .u8, .int .u8, .int .u8, .int .u8, .int .u8, .int .u8, .int .u8, .int .u8, .int .u8, .int .u8, .int .u8, .int .u8, .int .u8, .int .u8, .int .u8, .int .u8, .int .u8, .int .u8, .int .u8, .int .u8, .int .u8, .int .u8, .int .u8, .int .u8, .int .u8, .int .u8, .int .u8, .int .u8, .int .u8, .int .u8, .int .u8, .int .u8, .int .u8, .int .u8, .int .u8, .int .u8, .int .u8, .int .u8, .int .u8, .int .u8, .int .u8, .int .u8, .int .u8, .int .u8, .int .u8, .int .u8, .int .u8, .int .u8, .int .u8, .int .u8, .int .u8, .int .u8, .int .u8, .int .u8, .int .u8, .int .u8, .int .u8, .int .u8, .int .u8, .int .u8, .int .u8, .int .u8, .int .u8, .int .u8, .int .u8, .int .u8, .int .u8, .int .u8, .int .u8, .int .u8, .int .u8, .int .u8, .int .u8, .int .u8, .int .u8, .int .u8, .int .u8, .int .u8, .int .u8, .int .u8, .int .u8, .int .u8, .int .u8, .int .u8, .int .u8, .int .u8, .int .u8, .int .u8, .int .u8, .int .u8, .int .u8, .int .u8, .int .u8, .int .u8, .int .u8, .int .u8, .int .u8, .int .u8, .int .u8, .int .u8, .int .u8, .int .u8, .int .u8, .int .u8, .int .u8, .int .u8, .int .u8, .int .u8, .int .u8, .int .u8, .int .u8, .int .u8, .int .u8, .int .u8, .int .u8, .int .u8, .int .u8, .int .u8, .int .u8, .int .u8, .int .u8, .int .u8, .int .u8, .int .u8, .int .u8, .int .u8, .int .u8, .int .u8, .int .u8, .int .u8, .int .u8, .int .u8, .int .u8, .int .u8, .int .u8, .int .u8, .int .u8, .int .u8, .int .u8, .int .u8, .int .u8, .int .u8, .int .u8, .int .u8, .int .u8, .int .u8, .int .u8, .int .u8, .int .u8, .int .u8, .int .u8, .int .u8, .int .u8, .int .u8, .int .u8, .int .u8, .int .u8, .int .u8, .int .u8, .int .u8, .int .u8, .int .u8, .int .u8, .int .u8, .int .u8, .int .u8, .int .u8, .int .u8, .int .u8, .int .u8, .int .u8, .int .u8, .int .u8, .int .u8, .int .u8, .int .u8, .int .u8, .int .u8, .int .u8, .int .u8, .int .u8, .int .u8, .int .u8, .int .u8, .int .u8, .int .u8, .int .u8, .int .u8, .int .u8, .int .u8, .int .u8, .int .u8, .int .u8, .int .u8, .int .u8, .int .u8, .int .u8, .int .u8, .int .u8, .int .u8, .int .u8, .int .u8, .int .u8, .int .u8, .int .u8, .int .u8, .int .u8, .int .u8, .int .u8, .int .u8, .int .u8, .int .u8, .int .u8, .int .u8, .int .u8, .int .u8, .int .u8, .int .u8, .int .u8, .int .u8, .int .u8, .int .u8, .int .u8, .int .u8, .int .u8, .int .u8, .int .u8, .int .u8, .int .u8, .int .u8, .int .u8, .int .u8, .int .u8, .int .u8, .int .u8, .int .u8, .int .u8, .int .u8, .int .u8, .int .u8, .int .u8, .int .u8], .array 256 5, false⟩ | false => tyNone))))))))
  | false => (match Nat.blt t 391 with
   | true => (match Nat.blt t 366 with
    | true => (match Nat.blt t 351 with
     | true => (match Nat.blt t 344 with
      | true => (match Nat.blt t 341 with
       | true => (match Nat.blt t 339 with
        | true => (match Nat.beq t 338 with | true => ⟨1, false, 8, [.func], .func, false⟩ | false => tyNone)
        | false => (match Nat.blt t 340 with
         | true => (match Nat.beq t 339 with | true => ⟨1, false, 8, [.func], .func, false⟩ | false => tyNone)
         | false => (match Nat.beq t 340 with | true => ⟨1, false, 8, [.func], .func, false⟩ | false => tyNone)))
       | false => (match Nat.blt t 342 with
        | true => (match Nat.beq t 341 with | true => ⟨1, false, 8, [.func], .func, false⟩ | false => tyNone)
        | false => (match Nat.blt t 343 with
         | true => (match Nat.beq t 342 with | true => ⟨1, false, 24, [.seq 104], .slice 104, false⟩ | false => tyNone)
         | false => (match Nat.beq t 343 with | true => ⟨1, false, 8, [.func], .func, false⟩ | false => tyNone))))
      | false => (match Nat.blt t 347 with
       | true => (match Nat.blt t 345 with
        | true => (match Nat.beq t 344 with | true => ⟨1, false, 8, [.func], .func, false⟩ | false => tyNone)
        | false => (match Nat.blt t 346 with
         | true => (match Nat.beq t 345 with | true => ⟨1, false, 8, [.func], .func, false⟩ | false => tyNone)
         | false => (match Nat.beq t 346 with | true => ⟨1, false, 8, [.func], .func, false⟩ | false => tyNone)))
       | false => (match Nat.blt t 348 with
        | true => (match Nat.beq t 347 with | true => ⟨1, false, 8, [.func], .func, false⟩ | false => tyNone)
        | false => (match Nat.blt t 349 with
         | true => (match Nat.beq t 348 with | true => ⟨1, false, 8, [.func], .func, false⟩ | false => tyNone)
         | false => (match Nat.beq t 349 with | true => ⟨1, false, 8, [.int .i64], .int .i64, false⟩ | false => tyNone)))))
     | false => (match Nat.blt t 357 with
      | true => (match Nat.blt t 354 with
       | true => (match Nat.blt t 352 with
        | true => (match Nat.beq t 351 with | true => ⟨1, false, 8, [.func], .func, false⟩ | false => tyNone)
        | false => (match Nat.blt t 353 with
         | true => (match Nat.beq t 352 with | true => ⟨1, false, 8, [.func], .func, false⟩ | false => tyNone)
         | false => (match Nat.beq t 353 with | true => ⟨1, false, 8, [.func], .func, false⟩ | false => tyNone)))
       | false => (match Nat.blt t 355 with
        | true => (match Nat.beq t 354 with | true => ⟨1, false, 8, [.func], .func, false⟩ | false => tyNone)
        | false => (match Nat.blt t 356 with
         | true => (match Nat.beq t 355 with | true => ⟨1, false, 8, [.func], .func, false⟩ | false => tyNone)
         | false => (match Nat.beq t 356 with | true => ⟨32, true, 32, [.int .u8, .int .u8, .int .u8, .int .u8, .int .u8, .int .u8, .int .u8, .int .u8, .int .u8, .int .u8, .int .u8, .int .u8, .int .u8, .int .u8, .int .u8, .int .u8, .int .u8, .int .u8, .int .u8, .int .u8, .int .u8, .int .u8, .int .u8, .int .u8, .int .u8, .int .u8, .int .u8, .int .u8, .int .u8, .int .u8, .int .u8, .int .u8], .array 32 5, false⟩ | false => tyNone))))
      | false => (match Nat.blt t 360 with
       | true => (match Nat.blt t 358 with
        | true => (match Nat.beq t 357 with | true => ⟨64, true, 64, [.int .u8, .int .u8, .int .u8, .int .u8, .int .u8, .int .u8, .int .u8, .int .u8, .int .u8, .int .u8, .int .u8, .int .u8, .int .u8, .int .u8, .int .u8, .int .u8, .int .u8, .int .u8, .int .u8, .int .u8, .int .u8, .int .u8, .int .u8, .int .u8, .int .u8, .int .u8, .int .u8, .int .u8, .int .u8, .int .u8, .int .u8, .int .u8, .int .u8, .int .u8, .int .u8, .int .u8, .int .u8, .int .u8, .int .u8, .int .u8, .int .u8, .int .u8, .int .u8, .int .u8, .int .u8, .int .u8, .int .u8, .int .u8, .int .u8, .int .u8, .int .u8, .int .u8, .int .u8, .int .u8, .int .u8, .int .u8, .int .u8, .int .u8, .int .u8, .int .u8, .int .u8, .int .u8, .int .u8, .int .u8], .array 64 5, false⟩ | false => tyNone)
        | false => (match Nat.blt t 359 with
         | true => (match Nat.beq t 358 with | true => ⟨1, false, 8, [.func], .func, false⟩ | false => tyNone)
         | false => (match Nat.beq t 359 with | true => ⟨1, false, 8, [.func], .func, false⟩ | false => tyNone)))
       | false => (match Nat.blt t 362 with
        | true => (match Nat.blt t 361 with
         | true => (match Nat.beq t 360 with | true => ⟨3, true, 48, [.str, .str, .iface], .struct [(0, 1, false), (1, 1, false), (2, 1, false)], false⟩ | false => tyNone)
         | false => (match Nat.beq t 361 with | true => ⟨3, true, 48, [.str, .str, .iface], .struct [(0, 1, false), (1, 1, false), (2, 1, false)], false⟩ | false => tyNone))
        | false => (match Nat.blt t 364 with
         | true => (match Nat.beq t 362 with | true => ⟨1, false, 8, [.func], .func, false⟩ | false => tyNone)
         | false => (match Nat.beq t 364 with | true => ⟨1, false, 8, [.func], .func, false⟩ | false => tyNone))))))
    | false => (match Nat.blt t 378 with
     | true => (match Nat.blt t 372 with
      | true => (match Nat.blt t 369 with
       | true => (match Nat.blt t 367 with
        | true => (match Nat.beq t 366 with | true => ⟨1, false, 8, [.func], .func, false⟩ | false => tyNone)
        | false => (match Nat.blt t 368 with
         | true => (match Nat.beq t 367 with | true => ⟨1, false, 8, [.func], .func, false⟩ | false => tyNone)
         | false => (match Nat.beq t 368 with | true => ⟨1, false, 24, [.seq 370], .slice 370, false⟩ | false => tyNone)))
       | false => (match Nat.blt t 370 with
        | true => (match Nat.beq t 369 with | true => ⟨2, true, 16, [.int .i64, .int .i64], .struct [(0, 1, false), (1, 1, false)], true⟩ | false => tyNone)
        | false => (match Nat.blt t 371 with
         | true => (match Nat.beq t 370 with | true => ⟨2, true, 16, [.int .i64, .int .i64], .struct [(0, 1, false), (1, 1, false)], true⟩ | false => tyNone)
         | false => (match Nat.beq t 371 with | true => ⟨1, false, 8, [.func], .func, false⟩ | false => tyNone))))
      | false => (match Nat.blt t 375 with
       | true => (match Nat.blt t 373 with
        | true => (match Nat.beq t 372 with | true => ⟨1, false, 8, [.ptr], .ptr 402, false⟩ | false => tyNone)
        | false => (match Nat.blt t 374 with
         | true => (match Nat.beq t 373 with | true => ⟨1, false, 24, [.seq 376], .slice 376, false⟩ | false => tyNone)
         | false => (match Nat.beq t 374 with | true => ⟨1, false, 8, [.func], .func, false⟩ | false => tyNone)))
       | false => (match Nat.blt t 376 with
        | true => (match Nat.beq t 375 with | true => ⟨5, true, 40, [.bool, .int .i64, .int .i64, .int .i64, .int .i64], .struct [(0, 1, false), (1, 1, false), (2, 1, false), (3, 1, false), (4, 1, false)], true⟩ | false => tyNone)
        | false => (match Nat.blt t 377 with
         | true => (match Nat.beq t 376 with | true => ⟨5, true, 40, [.bool, .int .i64, .int .i64, .int .i64, .int .i64], .struct [(0, 1, false), (1, 1, false), (2, 1, false), (3, 1, false), (4, 1, false)], true⟩ | false => tyNone)
         | false => (match Nat.beq t 377 with | true => ⟨1, false, 8, [.func], .func, false⟩ | false => tyNone)))))
     | false => (match Nat.blt t 384 with
      | true => (match Nat.blt t 381 with
       | true => (match Nat.blt t 379 with
        | true => (match Nat.beq t 378 with | true => ⟨1, false, 24, [.seq 411], .slice 411, false⟩ | false => tyNone)
        | false => (match Nat.blt t 380 with
         | true => (match Nat.beq t 379 with | true => ⟨1, false, 8, [.func], .func, false⟩ | false => tyNone)
         | false => (match Nat.beq t 380 with | true => ⟨1, false, 8, [.int .u64], .int .u64, false⟩ | false => tyNone)))
       | false => (match Nat.blt t 382 with
        | true => (match Nat.beq t 381 with | true => ⟨1, false, 8, [.func], .func, false⟩ | false => tyNone)
        | false => (match Nat.blt t 383 with
         | true => (match Nat.beq t 382 with | true => ⟨1, false, 8, [.func], .func, false⟩ | false => tyNone)
         | false => (match Nat.beq t 383 with | true => ⟨1, false, 8, [.func], .func, false⟩ | false => tyNone))))
      | false => (match Nat.blt t 387 with
       | true => (match Nat.blt t 385 with
        | true => (match Nat.beq t 384 with | true => ⟨1, false, 8, [.ptr], .ptr 3, false⟩ | false => tyNone)
        | false => (match Nat.blt t 386 with
         | true => (match Nat.beq t 385 with | true => ⟨1, false, 8, [.func], .func, false⟩ | false => tyNone)
         | false => (match Nat.beq t 386 with | true => ⟨1, false, 8, [.ptr], .ptr 5, false⟩ | false => tyNone)))
       | false => (match Nat.blt t 389 with
        | true => (match Nat.blt t 388 with
         | true => (match Nat.beq t 387 with | true => ⟨1, false, 8, [.ptr], .ptr 389, false⟩ | false => tyNone)
         | false => (match Nat.beq t 388 with | true => ⟨1, true, 16, [.str], .struct [(0, 1, false)], true⟩ | false => tyNone))
        | false => (match Nat.blt t 390 with
         | true => (match Nat.beq t 389 with | true => ⟨1, true, 16, [.str], .struct [(0, 1, false)], true⟩ | false => tyNone)
         | false => (match Nat.beq t 390 with | true => ⟨1, false, 8, [.func], .func, false⟩ | false => tyNone)))))))
   | false => (match Nat.blt t 416 with
    | true => (match Nat.blt t 403 with
     | true => (match Nat.blt t 397 with
      | true => (match Nat.blt t 394 with
       | true => (match Nat.blt t 392 with
        | true => (match Nat.beq t 391 with | true => ⟨1, false, 8, [.ptr], .ptr 32, false⟩ | false => tyNone)
        | false => (match Nat.blt t 393 with
         | true => (match Nat.beq t 392 with | true => ⟨1, false, 8, [.ptr], .ptr 394, false⟩ | false => tyNone)
         | false => (match Nat.beq t 393 with | true => ⟨2, true, 32, [.seq 102, .int .i64], .struct [(0, 1, false), (1, 1, false)], false⟩ | false => tyNone)))
       | false => (match Nat.blt t 395 with
        | true => (match Nat.beq t 394 with | true => ⟨2, true, 32, [.seq 102, .int .i64], .struct [(0, 1, false), (1, 1, false)], false⟩ | false => tyNone)
        | false => (match Nat.blt t 396 with
         | true => (match Nat.beq t 395 with | true => ⟨1, false, 8, [.func], .func, false⟩ | false => tyNone)
         | false => (match Nat.beq t 396 with | true => ⟨2, true, 2, [.int .u8, .int .u8], .struct [(0, 1, false), (1, 1, false)], true⟩ | false => tyNone))))
      | false => (match Nat.blt t 400 with
       | true => (match Nat.blt t 398 with
        | true => (match Nat.beq t 397 with | true => ⟨2, true, 2, [.int .u8, .int .u8], .struct [(0, 1, false), (1, 1, false)], true⟩ | false => tyNone)
        | false => (match Nat.blt t 399 with
         | true => (match Nat.beq t 398 with | true => ⟨32, true, 32, [.int .u8, .int .u8, .int .u8, .int .u8, .int .u8, .int .u8, .int .u8, .int .u8, .int .u8, .int .u8, .int .u8, .int .u8, .int .u8, .int .u8, .int .u8, .int .u8, .int .u8, .int .u8, .int .u8, .int .u8, .int .u8, .int .u8, .int .u8, .int .u8, .int .u8, .int .u8, .int .u8, .int .u8, .int .u8, .int .u8, .int .u8, .int .u8], .array 16 397, false⟩ | false => tyNone)
         | false => (match Nat.beq t 399 with | true => ⟨1, false, 24, [.seq 405], .slice 405, false⟩ | false => tyNone)))
       | false => (match Nat.blt t 401 with
        | true => (match Nat.beq t 400 with | true => ⟨1, false, 24, [.seq 408], .slice 408, false⟩ | false => tyNone)
        | false => (match Nat.blt t 402 with
         | true => (match Nat.beq t 401 with | true => ⟨3, true, 56, [.seq 405, .seq 408, .int .i64], .struct [(0, 1, false), (1, 1, false), (2, 1, false)], false⟩ | false => tyNone)
         | false => (match Nat.beq t 402 with | true => ⟨3, true, 56, [.seq 405, .seq 408, .int .i64], .struct [(0, 1, false), (1, 1, false), (2, 1, false)], false⟩ | false => tyNone)))))
     | false => (match Nat.blt t 409 with
      | true => (match Nat.blt t 406 with
       | true => (match Nat.blt t 404 with
        | true => (match Nat.beq t 403 with | true => ⟨1, false, 2, [.int .u16], .int .u16, false⟩ | false => tyNone)
        | false => (match Nat.blt t 405 with
         | true => (match Nat.beq t 404 with | true => ⟨3, true, 6, [.int .u16, .int .u16, .int .u16], .struct [(0, 1, false), (1, 1, false), (2, 1, false)], true⟩ | false => tyNone)
         | false => (match Nat.beq t 405 with | true => ⟨3, true, 6, [.int .u16, .int .u16, .int .u16], .struct [(0, 1, false), (1, 1, false), (2, 1, false)], true⟩ | false => tyNone)))
       | false => (match Nat.blt t 407 with
        | true => (match Nat.beq t 406 with | true => ⟨1, false, 8, [.func], .func, false⟩ | false => tyNone)
        | false => (match Nat.blt t 408 with
         | true => (match Nat.beq t 407 with | true => ⟨3, true, 12, [.int .u32, .int .u32, .int .u32], .struct [(0, 1, false), (1, 1, false), (2, 1, false)], true⟩ | false => tyNone)
         | false => (match Nat.beq t 408 with | true => ⟨3, true, 12, [.int .u32, .int .u32, .int .u32], .struct [(0, 1, false), (1, 1, false), (2, 1, false)], true⟩ | false => tyNone))))
      | false => (match Nat.blt t 412 with
       | true => (match Nat.blt t 410 with
        | true => (match Nat.beq t 409 with | true => ⟨1, false, 8, [.func], .func, false⟩ | false => tyNone)
        | false => (match Nat.blt t 411 with
         | true => (match Nat.beq t 410 with | true => ⟨4, true, 32, [.int .i64, .int .i64, .int .i64, .int .i64], .struct [(0, 1, false), (1, 1, false), (2, 1, false), (3, 1, false)], true⟩ | false => tyNone)
         | false => (match Nat.beq t 411 with | true => ⟨4, true, 32, [.int .i64, .int .i64, .int .i64, .int .i64], .struct [(0, 1, false), (1, 1, false), (2, 1, false), (3, 1, false)], true⟩ | false => tyNone)))
       | false => (match Nat.blt t 414 with
        | true => (match Nat.blt t 413 with
         | true => (match Nat.beq t 412 with | true => ⟨1, false, 8, [.func], .func, false⟩ | false => tyNone)
         | false => (match Nat.beq t 413 with | true => ⟨1, false, 8, [.ptr], .ptr 380, false⟩ | false => tyNone))
        | false => (match Nat.blt t 415 with
         | true => (match Nat.beq t 414 with | true => ⟨1, false, 8, [.func], .func, false⟩ | false => tyNone)
         | false => (match Nat.beq t 415 with | true => ⟨2, true, 16, [.int .i64, .int .i64], .struct [(0, 1, false), (1, 1, false)], true⟩ | false => tyNone))))))
    | false => (match Nat.blt t 431 with
     | true => (match Nat.blt t 423 with
      | true => (match Nat.blt t 420 with
       | true => (match Nat.blt t 418 with
        | true => (match Nat.beq t 416 with | true => ⟨2, true, 16, [.int .i64, .int .i64], .struct [(0, 1, false), (1, 1, false)], true⟩ | false => tyNone)
        | false => (match Nat.blt t 419 with
         | true => (match Nat.beq t 418 with | true => ⟨1, false, 8, [.func], .func, false⟩ | false => tyNone)
         | false => (match Nat.beq t 419 with | true => ⟨1, false, 8, [.func], .func, false⟩ | false => tyNone)))
       | false => (match Nat.blt t 421 with
        | true => (match Nat.beq t 420 with | true => ⟨1, false, 8, [.func], .func, false⟩ | false => tyNone)
        | false => (match Nat.blt t 422 with
         | true => (match Nat.beq t 421 with | true => ⟨1, false, 8, [.ptr], .ptr 405, false⟩ | false => tyNone)
         | false => (match Nat.beq t 422 with | true => ⟨1, false, 8, [.ptr], .ptr 408, false⟩ | false => tyNone))))
      | false => (match Nat.blt t 427 with
       | true => (match Nat.blt t 425 with
        | true => (match Nat.beq t 423 with | true => ⟨1, false, 8, [.func], .func, false⟩ | false => tyNone)
        | false => (match Nat.blt t 426 with
         | true => (match Nat.beq t 425 with | true => ⟨1, false, 8, [.func], .func, false⟩ | false => tyNone)
         | false => (match Nat.beq t 426 with | true => ⟨1, false, 8, [.func], .func, false⟩ | false => tyNone)))
       | false => (match Nat.blt t 429 with
        | true => (match Nat.blt t 428 with
         | true => (match Nat.beq t 427 with | true => ⟨1, false, 8, [.func], .func, false⟩ | false => tyNone)
         | false => (match Nat.beq t 428 with | true => ⟨1, false, 8, [.func], .func, false⟩ | false => tyNone))
        | false => (match Nat.blt t 430 with
         | true => (match Nat.beq t 429 with | true => ⟨1, false, 24, [.seq 431], .slice 431, false⟩ | false => tyNone)
         | false => (match Nat.beq t 430 with | true => ⟨2, true, 24, [.str, .int .i64], .struct [(0, 1, false), (1, 1, false)], true⟩ | false => tyNone)))))
     | false => (match Nat.blt t 440 with
      | true => (match Nat.blt t 434 with
       | true => (match Nat.blt t 432 with
        | true => (match Nat.beq t 431 with | true => ⟨2, true, 24, [.str, .int .i64], .struct [(0, 1, false), (1, 1, false)], true⟩ | false => tyNone)
        | false => (match Nat.blt t 433 with
         | true => (match Nat.beq t 432 with | true => ⟨1, false, 8, [.func], .func, false⟩ | false => tyNone)
         | false => (match Nat.beq t 433 with | true => ⟨1, false, 8, [.func], .func, false⟩ | false => tyNone)))
       | false => (match Nat.blt t 435 with
        | true => (match Nat.beq t 434 with | true => ⟨1, false, 8, [.func], .func, false⟩ | false => tyNone)
        | false => (match Nat.blt t 436 with
         | true => (match Nat.beq t 435 with | true => ⟨4, true, 40, [.ptr, .ptr, .ptr, .str], .struct [(0, 1, false), (1, 1, false), (2, 1, false), (3, 1, false)], false⟩ | false => tyNone)
         | false => (match Nat.beq t 436 with | true => ⟨4, true, 40, [.ptr, .ptr, .ptr, .str], .struct [(0, 1, false), (1, 1, false), (2, 1, false), (3, 1, false)], false⟩ | false => tyNone))))
      | false => (match Nat.blt t 443 with
       | true => (match Nat.blt t 441 with
        | true => (match Nat.beq t 440 with | true => ⟨1, false, 1, [.int .u8], .int .u8, false⟩ | false => tyNone)
        | false => (match Nat.blt t 442 with
         | true => (match Nat.beq t 441 with | true => ⟨1, false, 1, [.int .u8], .int .u8, false⟩ | false => tyNone)
         | false => (match Nat.beq t 442 with | true => ⟨1, false, 8, [.func], .func, false⟩ | false => tyNone)))
       | false => (match Nat.blt t 445 with
        | true => (match Nat.blt t 444 with
         | true => (match Nat.beq t 443 with | true => ⟨1, false, 4, [.int .i32], .int .i32, false⟩ | false => tyNone)
         | false => (match Nat.beq t 444 with | true => ⟨1, false, 4, [.int .i32], .int .i32, false⟩ | false => tyNone))
        | false => (match Nat.blt t 446 with
         | true => (match Nat.beq t 445 with | true => ⟨11, true, 48, [.int .u64, .int .u64, .int .u32, .int .u8, .int .u8, .int .u8, .int .u8, .func, .ptr, .int .i32, .int .i32], .struct [(0, 1, false), (1, 1, false), (2, 1, false), (3, 1, false), (4, 1, false), (5, 1, false), (6, 1, false), (7, 1, false), (8, 1, false), (9, 1, false), (10, 1, false)], false⟩ | false => tyNone)
         | false => (match Nat.beq t 446 with | true => ⟨11, true, 48, [.int .u64, .int .u64, .int .u32, .int .u8, .int .u8, .int .u8, .int .u8, .func, .ptr, .int .i32, .int .i32], .struct [(0, 1, false), (1, 1, false), (2, 1, false), (3, 1, false), (4, 1, false), (5, 1, false), (6, 1, false), (7, 1, false), (8, 1, false), (9, 1, false), (10, 1, false)], false⟩ | false => tyNone)))))))))) | false => tyNone)
def tyN : Nat := 447
theorem tyOkAll : ((List.range tyN).all fun t => !(T t).ok || rowB Tryz.prog t (T t)) = true := by kernel_rfl
theorem tyOk : TyOk Tryz.prog T := fun t h => by
  by_cases ht : t < tyN
  · have h1 := List.all_eq_true.1 tyOkAll t (List.mem_range.2 ht)
    rw [h] at h1
    simpa using h1
  · have h1 : T t = tyNone := by
      unfold T
      have : Nat.blt t tyN = false := by
        cases hq : Nat.blt t tyN with
        | false => rfl
        | true => exact absurd (Nat.le_of_ble_eq_true hq) ht
      rw [show Nat.blt t 447 = Nat.blt t tyN from rfl, this]
    rw [h1] at h
    cases h
end Go.Proofs.YtpngkkalomiggaaGreatDoor
