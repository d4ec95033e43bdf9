/- The types of this seat, as a table. Printed by a program. -/
import Derived.Test.YtecplbjggbelbaaProg
import Derived.Test.YtecplbjggbelbaaAHH
import Derived.KernelRfl
namespace Go.Proofs.Ytecplbjggbelbaa
open Go Go.AH
def T (t : TypeId) : Ty := (match Nat.blt t 93 with | true => (match Nat.blt t 46 with
 | true => (match Nat.blt t 21 with
  | true => (match Nat.blt t 11 with
   | true => (match Nat.blt t 6 with
    | true => (match Nat.blt t 3 with
     | true => (match Nat.blt t 2 with
      | true => (match Nat.beq t 1 with | true => ⟨1, false, 8, [.func], .func, false⟩ | false => tyNone)
      | false => (match Nat.beq t 2 with | true => ⟨1, false, 8, [.int .i64], .int .i64, false⟩ | false => tyNone))
     | false => (match Nat.blt t 4 with
      | true => (match Nat.beq t 3 with | true => ⟨1, false, 8, [.int .i64], .int .i64, false⟩ | false => tyNone)
      | false => (match Nat.blt t 5 with
       | true => (match Nat.beq t 4 with | true => ⟨1, false, 1, [.bool], .bool, false⟩ | false => tyNone)
       | false => (match Nat.beq t 5 with | true => ⟨1, false, 1, [.int .u8], .int .u8, false⟩ | false => tyNone))))
    | false => (match Nat.blt t 8 with
     | true => (match Nat.blt t 7 with
      | true => (match Nat.beq t 6 with | true => ⟨1, false, 1, [.int .u8], .int .u8, false⟩ | false => tyNone)
      | false => (match Nat.beq t 7 with | true => ⟨4, true, 24, [.int .i64, .int .i64, .bool, .int .u8], .struct [(0, 1, false), (1, 1, false), (2, 1, false), (3, 1, false)], false⟩ | false => tyNone))
     | false => (match Nat.blt t 9 with
      | true => (match Nat.beq t 8 with | true => ⟨4, true, 24, [.int .i64, .int .i64, .bool, .int .u8], .struct [(0, 1, false), (1, 1, false), (2, 1, false), (3, 1, false)], false⟩ | false => tyNone)
      | false => (match Nat.blt t 10 with
       | true => (match Nat.beq t 9 with | true => ⟨1, false, 16, [.str], .str, false⟩ | false => tyNone)
       | false => (match Nat.beq t 10 with | true => ⟨1, false, 16, [.str], .str, false⟩ | false => tyNone)))))
   | false => (match Nat.blt t 16 with
    | true => (match Nat.blt t 13 with
     | true => (match Nat.blt t 12 with
      | true => (match Nat.beq t 11 with | true => ⟨1, false, 16, [.str], .str, false⟩ | false => tyNone)
      | false => (match Nat.beq t 12 with | true => ⟨1, false, 8, [.int .u64], .int .u64, false⟩ | false => tyNone))
     | false => (match Nat.blt t 14 with
      | true => (match Nat.beq t 13 with | true => ⟨2, true, 24, [.str, .int .u64], .struct [(0, 1, false), (1, 1, false)], false⟩ | false => tyNone)
      | false => (match Nat.blt t 15 with
       | true => (match Nat.beq t 14 with | true => ⟨2, true, 24, [.str, .int .u64], .struct [(0, 1, false), (1, 1, false)], false⟩ | false => tyNone)
       | false => (match Nat.beq t 15 with | true => ⟨1, false, 8, [.ptr], .ptr 79, false⟩ | false => tyNone))))
    | false => (match Nat.blt t 18 with
     | true => (match Nat.blt t 17 with
      | true => (match Nat.beq t 16 with | true => ⟨1, false, 8, [.ptr], .ptr 82, false⟩ | false => tyNone)
      | false => (match Nat.beq t 17 with | true => ⟨1, false, 8, [.ptr], .ptr 92, false⟩ | false => tyNone))
     | false => (match Nat.blt t 19 with
      | true => (match Nat.beq t 18 with | true => ⟨1, true, 8, [.ptr], .struct [(0, 1, false)], false⟩ | false => tyNone)
      | false => (match Nat.blt t 20 with
       | true => (match Nat.beq t 19 with | true => ⟨1, true, 8, [.ptr], .struct [(0, 1, false)], false⟩ | false => tyNone)
       | false => (match Nat.beq t 20 with | true => ⟨1, false, 16, [.iface], .iface, false⟩ | false => tyNone))))))
  | false => (match Nat.blt t 33 with
   | true => (match Nat.blt t 27 with
    | true => (match Nat.blt t 23 with
     | true => (match Nat.blt t 22 with
      | true => (match Nat.beq t 21 with | true => ⟨1, false, 4, [.int .i32], .int .i32, false⟩ | false => tyNone)
      | false => (match Nat.beq t 22 with | true => ⟨1, false, 24, [.seq 48], .slice 48, false⟩ | false => tyNone))
     | false => (match Nat.blt t 24 with
      | true => (match Nat.beq t 23 with | true => ⟨1, false, 24, [.seq 44], .slice 44, false⟩ | false => tyNone)
      | false => (match Nat.blt t 26 with
       | true => (match Nat.beq t 24 with | true => ⟨1, false, 8, [.func], .func, false⟩ | false => tyNone)
       | false => (match Nat.beq t 26 with | true => ⟨1, false, 8, [.func], .func, false⟩ | false => tyNone))))
    | false => (match Nat.blt t 29 with
     | true => (match Nat.blt t 28 with
      | true => (match Nat.beq t 27 with | true => ⟨1, false, 8, [.func], .func, false⟩ | false => tyNone)
      | false => (match Nat.beq t 28 with | true => ⟨1, false, 24, [.seq 64], .slice 64, false⟩ | false => tyNone))
     | false => (match Nat.blt t 30 with
      | true => (match Nat.beq t 29 with | true => ⟨1, false, 8, [.func], .func, false⟩ | false => tyNone)
      | false => (match Nat.blt t 32 with
       | true => (match Nat.beq t 30 with | true => ⟨1, false, 8, [.int .i64], .int .i64, false⟩ | false => tyNone)
       | false => (match Nat.beq t 32 with | true => ⟨1, false, 8, [.func], .func, false⟩ | false => tyNone)))))
   | false => (match Nat.blt t 38 with
    | true => (match Nat.blt t 35 with
     | true => (match Nat.blt t 34 with
      | true => (match Nat.beq t 33 with | true => ⟨1, false, 8, [.func], .func, false⟩ | false => tyNone)
      | false => (match Nat.beq t 34 with | true => ⟨1, false, 8, [.func], .func, false⟩ | false => tyNone))
     | false => (match Nat.blt t 36 with
      | true => (match Nat.beq t 35 with | true => ⟨1, false, 24, [.seq 3], .slice 3, false⟩ | false => tyNone)
      | false => (match Nat.blt t 37 with
       | true => (match Nat.beq t 36 with | true => ⟨1, false, 8, [.func], .func, false⟩ | false => tyNone)
       | false => (match Nat.beq t 37 with | true => ⟨1, false, 8, [.func], .func, false⟩ | false => tyNone))))
    | false => (match Nat.blt t 42 with
     | true => (match Nat.blt t 39 with
      | true => (match Nat.beq t 38 with | true => ⟨1, false, 8, [.func], .func, false⟩ | false => tyNone)
      | false => (match Nat.blt t 40 with
       | true => (match Nat.beq t 39 with | true => ⟨1, false, 8, [.func], .func, false⟩ | false => tyNone)
       | false => (match Nat.beq t 40 with | true => ⟨1, false, 24, [.seq 70], .slice 70, false⟩ | false => tyNone)))
     | false => (match Nat.blt t 43 with
      | true => (match Nat.beq t 42 with | true => ⟨1, false, 8, [.func], .func, false⟩ | false => tyNone)
      | false => (match Nat.blt t 44 with
       | true => (match Nat.beq t 43 with | true => ⟨2, true, 16, [.int .i64, .int .i64], .struct [(0, 1, false), (1, 1, false)], true⟩ | false => tyNone)
       | false => (match Nat.beq t 44 with | true => ⟨2, true, 16, [.int .i64, .int .i64], .struct [(0, 1, false), (1, 1, false)], true⟩ | false => tyNone)))))))
 | false => (match Nat.blt t 69 with
  | true => (match Nat.blt t 58 with
   | true => (match Nat.blt t 53 with
    | true => (match Nat.blt t 48 with
     | true => (match Nat.blt t 47 with
      | true => (match Nat.beq t 46 with | true => ⟨1, false, 8, [.func], .func, false⟩ | false => tyNone)
      | false => (match Nat.beq t 47 with | true => ⟨5, true, 48, [.str, .int .i64, .int .i64, .int .i64, .int .i64], .struct [(0, 1, false), (1, 1, false), (2, 1, false), (3, 1, false), (4, 1, false)], true⟩ | false => tyNone))
     | false => (match Nat.blt t 50 with
      | true => (match Nat.beq t 48 with | true => ⟨5, true, 48, [.str, .int .i64, .int .i64, .int .i64, .int .i64], .struct [(0, 1, false), (1, 1, false), (2, 1, false), (3, 1, false), (4, 1, false)], true⟩ | false => tyNone)
      | false => (match Nat.blt t 51 with
       | true => (match Nat.beq t 50 with | true => ⟨1, false, 8, [.func], .func, false⟩ | false => tyNone)
       | false => (match Nat.beq t 51 with | true => ⟨1, false, 8, [.func], .func, false⟩ | false => tyNone))))
    | false => (match Nat.blt t 55 with
     | true => (match Nat.blt t 54 with
      | true => (match Nat.beq t 53 with | true => ⟨1, false, 8, [.func], .func, false⟩ | false => tyNone)
      | false => (match Nat.beq t 54 with | true => ⟨1, false, 8, [.func], .func, false⟩ | false => tyNone))
     | false => (match Nat.blt t 56 with
      | true => (match Nat.beq t 55 with | true => ⟨1, false, 8, [.func], .func, false⟩ | false => tyNone)
      | false => (match Nat.blt t 57 with
       | true => (match Nat.beq t 56 with | true => ⟨1, false, 8, [.func], .func, false⟩ | false => tyNone)
       | false => (match Nat.beq t 57 with | true => ⟨1, false, 8, [.func], .func, false⟩ | false => tyNone)))))
   | false => (match Nat.blt t 63 with
    | true => (match Nat.blt t 60 with
     | true => (match Nat.blt t 59 with
      | true => (match Nat.beq t 58 with | true => ⟨1, false, 8, [.func], .func, false⟩ | false => tyNone)
      | false => (match Nat.beq t 59 with | true => ⟨1, false, 2, [.int .u16], .int .u16, false⟩ | false => tyNone))
     | false => (match Nat.blt t 61 with
      | true => (match Nat.beq t 60 with | true => ⟨1, false, 8, [.func], .func, false⟩ | false => tyNone)
      | false => (match Nat.blt t 62 with
       | true => (match Nat.beq t 61 with | true => ⟨1, false, 8, [.func], .func, false⟩ | false => tyNone)
       | false => (match Nat.beq t 62 with | true => ⟨1, false, 8, [.func], .func, false⟩ | false => tyNone))))
    | false => (match Nat.blt t 66 with
     | true => (match Nat.blt t 64 with
      | true => (match Nat.beq t 63 with | true => ⟨1, false, 8, [.func], .func, false⟩ | false => tyNone)
      | false => (match Nat.blt t 65 with
       | true => (match Nat.beq t 64 with | true => ⟨5, true, 48, [.str, .int .i64, .int .i64, .int .i64, .int .i64], .struct [(0, 1, false), (1, 1, false), (2, 1, false), (3, 1, false), (4, 1, false)], true⟩ | false => tyNone)
       | false => (match Nat.beq t 65 with | true => ⟨1, false, 8, [.func], .func, false⟩ | false => tyNone)))
     | false => (match Nat.blt t 67 with
      | true => (match Nat.beq t 66 with | true => ⟨1, false, 8, [.map], .map 68 3, false⟩ | false => tyNone)
      | false => (match Nat.blt t 68 with
       | true => (match Nat.beq t 67 with | true => ⟨2, true, 24, [.str, .int .i64], .struct [(0, 1, false), (1, 1, false)], true⟩ | false => tyNone)
       | false => (match Nat.beq t 68 with | true => ⟨2, true, 24, [.str, .int .i64], .struct [(0, 1, false), (1, 1, false)], true⟩ | false => tyNone))))))
  | false => (match Nat.blt t 79 with
   | true => (match Nat.blt t 74 with
    | true => (match Nat.blt t 71 with
     | true => (match Nat.blt t 70 with
      | true => (match Nat.beq t 69 with | true => ⟨3, true, 16, [.int .u8, .int .u8, .int .i64], .struct [(0, 1, false), (1, 1, false), (2, 1, false)], true⟩ | false => tyNone)
      | false => (match Nat.beq t 70 with | true => ⟨3, true, 16, [.int .u8, .int .u8, .int .i64], .struct [(0, 1, false), (1, 1, false), (2, 1, false)], true⟩ | false => tyNone))
     | false => (match Nat.blt t 72 with
      | true => (match Nat.beq t 71 with | true => ⟨1, false, 24, [.seq 5], .slice 5, false⟩ | false => tyNone)
      | false => (match Nat.blt t 73 with
       | true => (match Nat.beq t 72 with | true => ⟨1, false, 8, [.func], .func, false⟩ | false => tyNone)
       | false => (match Nat.beq t 73 with | true => ⟨1, false, 8, [.func], .func, false⟩ | false => tyNone))))
    | false => (match Nat.blt t 76 with
     | true => (match Nat.blt t 75 with
      | true => (match Nat.beq t 74 with | true => ⟨1, false, 8, [.func], .func, false⟩ | false => tyNone)
      | false => (match Nat.beq t 75 with | true => ⟨1, false, 8, [.func], .func, false⟩ | false => tyNone))
     | false => (match Nat.blt t 77 with
      | true => (match Nat.beq t 76 with | true => ⟨1, false, 8, [.func], .func, false⟩ | false => tyNone)
      | false => (match Nat.blt t 78 with
       | true => (match Nat.beq t 77 with | true => ⟨1, false, 8, [.func], .func, false⟩ | false => tyNone)
       | false => (match Nat.beq t 78 with | true => ⟨4, true, 40, [.ptr, .ptr, .ptr, .str], .struct [(0, 1, false), (1, 1, false), (2, 1, false), (3, 1, false)], false⟩ | false => tyNone)))))
   | false => (match Nat.blt t 87 with
    | true => (match Nat.blt t 84 with
     | true => (match Nat.blt t 83 with
      | true => (match Nat.beq t 79 with | true => ⟨4, true, 40, [.ptr, .ptr, .ptr, .str], .struct [(0, 1, false), (1, 1, false), (2, 1, false), (3, 1, false)], false⟩ | false => tyNone)
      | false => (match Nat.beq t 83 with | true => ⟨1, false, 8, [.func], .func, false⟩ | false => tyNone))
     | false => (match Nat.blt t 85 with
      | true => (match Nat.beq t 84 with | true => ⟨1, false, 4, [.int .u32], .int .u32, false⟩ | false => tyNone)
      | false => (match Nat.blt t 86 with
       | true => (match Nat.beq t 85 with | true => ⟨1, false, 1, [.int .u8], .int .u8, false⟩ | false => tyNone)
       | false => (match Nat.beq t 86 with | true => ⟨1, false, 1, [.int .u8], .int .u8, false⟩ | false => tyNone))))
    | false => (match Nat.blt t 90 with
     | true => (match Nat.blt t 88 with
      | true => (match Nat.beq t 87 with | true => ⟨1, false, 8, [.func], .func, false⟩ | false => tyNone)
      | false => (match Nat.blt t 89 with
       | true => (match Nat.beq t 88 with | true => ⟨1, false, 8, [.ptr], .ptr 5, false⟩ | false => tyNone)
       | false => (match Nat.beq t 89 with | true => ⟨1, false, 4, [.int .i32], .int .i32, false⟩ | false => tyNone)))
     | false => (match Nat.blt t 91 with
      | true => (match Nat.beq t 90 with | true => ⟨1, false, 4, [.int .i32], .int .i32, false⟩ | false => tyNone)
      | false => (match Nat.blt t 92 with
       | true => (match Nat.beq t 91 with | true => ⟨11, true, 48, [.int .u64, .int .u64, .int .u32, .int .u8, .int .u8, .int .u8, .int .u8, .func, .ptr, .int .i32, .int .i32], .struct [(0, 1, false), (1, 1, false), (2, 1, false), (3, 1, false), (4, 1, false), (5, 1, false), (6, 1, false), (7, 1, false), (8, 1, false), (9, 1, false), (10, 1, false)], false⟩ | false => tyNone)
       | false => (match Nat.beq t 92 with | true => ⟨11, true, 48, [.int .u64, .int .u64, .int .u32, .int .u8, .int .u8, .int .u8, .int .u8, .func, .ptr, .int .i32, .int .i32], .struct [(0, 1, false), (1, 1, false), (2, 1, false), (3, 1, false), (4, 1, false), (5, 1, false), (6, 1, false), (7, 1, false), (8, 1, false), (9, 1, false), (10, 1, false)], false⟩ | false => tyNone)))))))) | false => tyNone)
def tyN : Nat := 93
theorem tyOkAll : ((List.range tyN).all fun t => !(T t).ok || rowB Try.prog t (T t)) = true := by kernel_rfl
theorem tyOk : TyOk Try.prog T := fun t h => by
  by_cases ht : t < tyN
  · have h1 := List.all_eq_true.1 tyOkAll t (List.mem_range.2 ht)
    rw [h] at h1
    simpa using h1
  · have h1 : T t = tyNone := by
      unfold T
      have : Nat.blt t tyN = false := by
        cases hq : Nat.blt t tyN with
        | false => rfl
        | true => exact absurd (Nat.le_of_ble_eq_true hq) ht
      rw [show Nat.blt t 93 = Nat.blt t tyN from rfl, this]
    rw [h1] at h
    cases h
end Go.Proofs.Ytecplbjggbelbaa
