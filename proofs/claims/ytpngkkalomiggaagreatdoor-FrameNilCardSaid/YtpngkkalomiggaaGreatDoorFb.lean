/- A part of the proof: FFD, LGJ. -/
import Derived.Test.YtpngkkalomiggaaGreatDoorFa
set_option linter.all false
namespace Go.Proofs.YtpngkkalomiggaaGreatDoor
open Go Go.AH

def aD_0 : List V := [.str [102, 117, 110, 99, 32, 102, 40, 110, 32, 105, 110, 116, 44, 32, 97, 32, 97, 114, 114, 97, 121, 41, 32, 105, 110, 116, 32, 123, 32, 118, 97, 114, 32, 98, 32, 98, 111, 111, 108, 59, 32, 105, 102, 32, 110, 32, 60, 32, 49, 32, 123, 32, 118, 97, 114, 32, 107, 32, 105, 110, 116, 32, 61, 32, 55, 59, 32, 114, 101, 116, 117, 114, 110, 32, 107, 59, 32, 125, 32, 114, 101, 116, 117, 114, 110, 32, 108, 101, 110, 40, 97, 41, 59, 32, 125, 32, 102, 117, 110, 99, 32, 109, 97, 105, 110, 40, 41, 32, 123, 32, 125]]
def oD_0 : Out := .ret (.tup [(.agg [(.seq 106 [(.agg [(.str [102]), (.seq 165 [(.agg [(.str [110]), (.int .i64 1)]), (.agg [(.str [97]), (.int .i64 3)])]), (.int .i64 1), (.seq 155 [(.agg [(.int .i64 1), (.int .i64 0), (.str [98]), (.int .i64 2), (.str []), (.seq 258 []), (.seq 155 []), (.seq 155 [])]), (.agg [(.int .i64 9), (.int .i64 1), (.str []), (.int .i64 0), (.str []), (.seq 258 [(.agg [(.int .i64 5), (.int .i64 8), (.int .i64 0), (.str []), (.seq 258 [(.agg [(.int .i64 3), (.int .i64 0), (.int .i64 0), (.str [110]), (.seq 258 [])]), (.agg [(.int .i64 1), (.int .i64 0), (.int .i64 1), (.str []), (.seq 258 [])])])])]), (.seq 155 [(.agg [(.int .i64 1), (.int .i64 2), (.str [107]), (.int .i64 1), (.str []), (.seq 258 [(.agg [(.int .i64 1), (.int .i64 0), (.int .i64 7), (.str []), (.seq 258 [])])]), (.seq 155 []), (.seq 155 [])]), (.agg [(.int .i64 8), (.int .i64 3), (.str []), (.int .i64 0), (.str []), (.seq 258 [(.agg [(.int .i64 3), (.int .i64 0), (.int .i64 0), (.str [107]), (.seq 258 [])])]), (.seq 155 []), (.seq 155 [])])]), (.seq 155 [])]), (.agg [(.int .i64 8), (.int .i64 4), (.str []), (.int .i64 0), (.str []), (.seq 258 [(.agg [(.int .i64 7), (.int .i64 0), (.int .i64 0), (.str [97]), (.seq 258 [])])]), (.seq 155 []), (.seq 155 [])])]), (.int .i64 5)]), (.agg [(.str [109, 97, 105, 110]), (.seq 165 []), (.int .i64 0), (.seq 155 []), (.int .i64 0)])])]), (.agg [(.int .i64 0), (.int .i64 0)]), (.int .i64 0)]) []
theorem tD_0 : fm T gl LGa knC ov0 300 60 12 aD_0 [] = some oD_0 := by kernel_rfl
theorem fD_0 : FactAt Tryz.prog LGa 12 aD_0 oD_0 := factA knC_ok tD_0
def aD_1 : List V := [.str [102, 117, 110, 99, 32, 109, 97, 105, 110, 40, 41, 32, 123, 32, 125]]
def oD_1 : Out := .ret (.tup [(.agg [(.seq 106 [(.agg [(.str [109, 97, 105, 110]), (.seq 165 []), (.int .i64 0), (.seq 155 []), (.int .i64 0)])])]), (.agg [(.int .i64 0), (.int .i64 0)]), (.int .i64 0)]) []
theorem tD_1 : fm T gl LGa knC ov0 300 60 12 aD_1 [] = some oD_1 := by kernel_rfl
theorem fD_1 : FactAt Tryz.prog LGa 12 aD_1 oD_1 := factA knC_ok tD_1
def aD_2 : List V := [(.agg [(.seq 106 [(.agg [(.str [102]), (.seq 165 [(.agg [(.str [110]), (.int .i64 1)]), (.agg [(.str [97]), (.int .i64 3)])]), (.int .i64 1), (.seq 155 [(.agg [(.int .i64 1), (.int .i64 0), (.str [98]), (.int .i64 2), (.str []), (.seq 258 []), (.seq 155 []), (.seq 155 [])]), (.agg [(.int .i64 9), (.int .i64 1), (.str []), (.int .i64 0), (.str []), (.seq 258 [(.agg [(.int .i64 5), (.int .i64 8), (.int .i64 0), (.str []), (.seq 258 [(.agg [(.int .i64 3), (.int .i64 0), (.int .i64 0), (.str [110]), (.seq 258 [])]), (.agg [(.int .i64 1), (.int .i64 0), (.int .i64 1), (.str []), (.seq 258 [])])])])]), (.seq 155 [(.agg [(.int .i64 1), (.int .i64 2), (.str [107]), (.int .i64 1), (.str []), (.seq 258 [(.agg [(.int .i64 1), (.int .i64 0), (.int .i64 7), (.str []), (.seq 258 [])])]), (.seq 155 []), (.seq 155 [])]), (.agg [(.int .i64 8), (.int .i64 3), (.str []), (.int .i64 0), (.str []), (.seq 258 [(.agg [(.int .i64 3), (.int .i64 0), (.int .i64 0), (.str [107]), (.seq 258 [])])]), (.seq 155 []), (.seq 155 [])])]), (.seq 155 [])]), (.agg [(.int .i64 8), (.int .i64 4), (.str []), (.int .i64 0), (.str []), (.seq 258 [(.agg [(.int .i64 7), (.int .i64 0), (.int .i64 0), (.str [97]), (.seq 258 [])])]), (.seq 155 []), (.seq 155 [])])]), (.int .i64 5)])])])]
def oD_2 : Out := .ret (.int .i64 0) []
theorem tD_2 : fm T gl LGa knC ov0 300 60 42 aD_2 [] = some oD_2 := by kernel_rfl
theorem fD_2 : FactAt Tryz.prog LGa 42 aD_2 oD_2 := factA knC_ok tD_2
def aD_3 : List V := [(.agg [(.seq 106 [(.agg [(.str [109, 97, 105, 110]), (.seq 165 []), (.int .i64 0), (.seq 155 []), (.int .i64 0)])])])]
def oD_3 : Out := .ret (.int .i64 0) []
theorem tD_3 : fm T gl LGa knC ov0 300 60 42 aD_3 [] = some oD_3 := by kernel_rfl
theorem fD_3 : FactAt Tryz.prog LGa 42 aD_3 oD_3 := factA knC_ok tD_3
def aD_4 : List V := [(.agg [(.seq 106 [(.agg [(.str [102]), (.seq 165 [(.agg [(.str [110]), (.int .i64 1)]), (.agg [(.str [97]), (.int .i64 3)])]), (.int .i64 1), (.seq 155 [(.agg [(.int .i64 1), (.int .i64 0), (.str [98]), (.int .i64 2), (.str []), (.seq 258 []), (.seq 155 []), (.seq 155 [])]), (.agg [(.int .i64 9), (.int .i64 1), (.str []), (.int .i64 0), (.str []), (.seq 258 [(.agg [(.int .i64 5), (.int .i64 8), (.int .i64 0), (.str []), (.seq 258 [(.agg [(.int .i64 3), (.int .i64 0), (.int .i64 0), (.str [110]), (.seq 258 [])]), (.agg [(.int .i64 1), (.int .i64 0), (.int .i64 1), (.str []), (.seq 258 [])])])])]), (.seq 155 [(.agg [(.int .i64 1), (.int .i64 2), (.str [107]), (.int .i64 1), (.str []), (.seq 258 [(.agg [(.int .i64 1), (.int .i64 0), (.int .i64 7), (.str []), (.seq 258 [])])]), (.seq 155 []), (.seq 155 [])]), (.agg [(.int .i64 8), (.int .i64 3), (.str []), (.int .i64 0), (.str []), (.seq 258 [(.agg [(.int .i64 3), (.int .i64 0), (.int .i64 0), (.str [107]), (.seq 258 [])])]), (.seq 155 []), (.seq 155 [])])]), (.seq 155 [])]), (.agg [(.int .i64 8), (.int .i64 4), (.str []), (.int .i64 0), (.str []), (.seq 258 [(.agg [(.int .i64 7), (.int .i64 0), (.int .i64 0), (.str [97]), (.seq 258 [])])]), (.seq 155 []), (.seq 155 [])])]), (.int .i64 5)]), (.agg [(.str [109, 97, 105, 110]), (.seq 165 []), (.int .i64 0), (.seq 155 []), (.int .i64 0)])])])]
def oD_4 : Out := .ret (.int .i64 0) []
theorem tD_4 : fm T gl LGa knC ov0 300 60 42 aD_4 [] = some oD_4 := by kernel_rfl
theorem fD_4 : FactAt Tryz.prog LGa 42 aD_4 oD_4 := factA knC_ok tD_4

noncomputable def ktD : Tab Facts := (.node 155 [(aA_0, oA_0)] (.node 42 [(aD_2, oD_2), (aD_3, oD_3), (aD_4, oD_4)] (.node 38 [(aC_0, oC_0), (aC_1, oC_1)] (.node 12 [(aD_0, oD_0), (aD_1, oD_1)] .leaf .leaf) .leaf) (.node 117 [(aB_0, oB_0), (aB_1, oB_1), (aB_2, oB_2), (aB_3, oB_3), (aB_4, oB_4), (aB_5, oB_5)] (.node 61 [(aA_5, oA_5)] .leaf .leaf) .leaf)) (.node 202 [(aA_1, oA_1)] (.node 196 [(aA_6, oA_6)] (.node 191 [(aA_4, oA_4)] .leaf .leaf) .leaf) (.node 306 [(aA_3, oA_3)] (.node 269 [(aA_2, oA_2)] .leaf .leaf) .leaf)))
theorem ktD_all : KnAll ktD := ⟨⟨fA_0, trivial⟩, ⟨⟨fD_2, ⟨fD_3, ⟨fD_4, trivial⟩⟩⟩, ⟨⟨fC_0, ⟨fC_1, trivial⟩⟩, ⟨⟨fD_0, ⟨fD_1, trivial⟩⟩, trivial, trivial⟩, trivial⟩, ⟨⟨fB_0, ⟨fB_1, ⟨fB_2, ⟨fB_3, ⟨fB_4, ⟨fB_5, trivial⟩⟩⟩⟩⟩⟩, ⟨⟨fA_5, trivial⟩, trivial, trivial⟩, trivial⟩⟩, ⟨⟨fA_1, trivial⟩, ⟨⟨fA_6, trivial⟩, ⟨⟨fA_4, trivial⟩, trivial, trivial⟩, trivial⟩, ⟨⟨fA_3, trivial⟩, ⟨⟨fA_2, trivial⟩, trivial, trivial⟩, trivial⟩⟩⟩
noncomputable def knD : FuncId → Option Facts := ktD.find
theorem knD_ok : KnOk Tryz.prog LGa knD := knOf ktD_all
end Go.Proofs.YtpngkkalomiggaaGreatDoor

namespace Go.Proofs.YtpngkkalomiggaaGreatDoor
open Go Go.AH Go.RowKit
def okP (p : V) : Bool := match p with | .pref cs => Nat.ble 9 cs.length | _ => false
noncomputable def it127 (cs5 : List V) (blk : List V) : Option (List V) := match fm T gl LGa knD ov0 300 40 128 [.agg cs5] [] with
  | some (.ret (.bool true) []) => (match visitV 300 .nilp blk 0 blk with
    | some L => (match L.all okP with | true => some (L.map itemA) | false => none)
    | none => none)
  | _ => none
noncomputable def itI (f : FuncId) (caps : List V) : Option (List V) := match Nat.beq f 162 with
  | true => (match caps with
    | [.pref [_, _, _, .seq t blk, _]] => (match Nat.beq t 155 with | true => (visitV 300 .nilp blk 0 blk).map fun L => L.map fun p => .tup [p] | false => none)
    | _ => none)
  | false => (match Nat.beq f 127 with
    | true => (match caps with
      | [.pref [.str nm, .seq t1 ps, .int .i64 rs, .seq t2 blk, .int .i64 cnt]] => (match Nat.beq t1 165 && Nat.beq t2 155 with | true => it127 [.str nm, .seq 165 ps, .int .i64 rs, .seq 155 blk, .int .i64 cnt] blk | false => none)
      | _ => none)
    | false => none)
theorem name127 : (Tryz.f127.name == "runtime.NumGoroutine") = false := by kernel_rfl
theorem ent127 : ∀ args w, (callFunc 127 args).run Tryz.prog w = .ok (.enter 127 args) w := enters Tryz.func127 name127 bodyA
theorem m129 (nm : List UInt8) (ps : List V) (rs : Int) (blk : List V) (cnt : Int) : (interp LGa 300 5 129 [.agg [.str nm, .seq 165 ps, .int .i64 rs, .seq 155 blk, .int .i64 cnt]] []).eval = some (.ret (.clo 162 [] [.pref [.str nm, .seq 165 ps, .int .i64 rs, .seq 155 blk, .int .i64 cnt]]) []) := by kernel_rfl
theorem itI_iters : ∀ gf caps items, itI gf caps = some items → (∀ args w, (callFunc gf args).run Tryz.prog w = .ok (.enter gf args) w) ∧
    ∀ kn O w (lb : Array Value), (∀ b, O b → b < w.heap.size) → (∀ g, Rep T w O (gl g) noR (.pointer (some ⟨g, 0, none⟩))) → RepL T w O caps noR lb.toList → SeqAt T kn Tryz.prog gf lb items O w := by
  intro gf caps items h
  unfold itI at h
  split at h
  · rename_i hf
    obtain rfl := Nat.eq_of_beq_eq_true hf
    split at h
    · rename_i a b c t blk e
      split at h
      · rename_i ht
        obtain rfl := Nat.eq_of_beq_eq_true ht
        cases hv : visitV 300 .nilp blk 0 blk with
        | none => rw [hv] at h; cases h
        | some L =>
          rw [hv] at h
          injection h with h
          subst h
          exact ⟨ent162, fun kn O w lb hO hg hlb => seq162 hv hO hg hlb⟩
      · cases h
    · cases h
  · split at h
    · rename_i hf
      obtain rfl := Nat.eq_of_beq_eq_true hf
      split at h
      · rename_i nm t1 ps rs t2 blk cnt
        split at h
        · rename_i ht
          rw [Bool.and_eq_true] at ht
          obtain rfl := Nat.eq_of_beq_eq_true ht.1
          obtain rfl := Nat.eq_of_beq_eq_true ht.2
          unfold it127 at h
          split at h
          · rename_i hr
            split at h
            · rename_i L hv
              split at h
              · rename_i hok
                injection h with h
                subst h
                refine ⟨ent127, fun kn O w lb hO hg hlb => seq127 (M128 := interpM LGa knD 300 40 128) (M129 := interp LGa 300 5 129) (interpM_holds (g := LGa) tyOk ovA fdAllA itA knD_ok 300 40 128) (interpA 5 129) rfl rfl (fm_is ov0_ok 40 128 _ [] _ hr) (m129 nm ps rs blk cnt) hv (fun p hp => ?_) hO hg hlb⟩
                have h1 := List.all_eq_true.1 hok p hp
                unfold okP at h1
                split at h1
                · exact ⟨_, rfl, Nat.le_of_ble_eq_true h1⟩
                · cases h1
              · cases h
            · cases h
          · cases h
        · cases h
      · cases h
    · cases h
noncomputable def LG1 : Lang := { LG0 with it := itI }
theorem itOk1 : ItOk Tryz.prog LG1 := fun C hC d fuel k => by cases k <;> exact itI_iters
theorem fdAll1 : ∀ f d, LG1.fd f = some d → FdOk Tryz.prog LG1 f d := fun f d h => ⟨(fdAll f d h).fn, (fdAll f d h).name, (fdAll f d h).body, (fdAll f d h).code, (fdAll f d h).keys⟩
theorem ovA1 : ∀ f M, LG1.ov f = some M → Holds LG1.ty LG1.glob Tryz.prog f M := fun f M h => Tab.All.find ovAll f M h
theorem ov0_ok1 : OvOk LG1 ov0 := ovP_ok LG1
/-- Known calls of the language with iterators. -/
theorem factI {kn : FuncId → Option Facts} (hkn : KnOk Tryz.prog LGa kn) {f : FuncId} {args : List V} {out : Out} (h : fm T gl LG1 kn ov0 300 60 f args [] = some out) : FactAt Tryz.prog LGa f args out :=
  factAt_of (g := LGa) (interpM_holds (g := LG1) tyOk ovA1 fdAll1 itOk1 hkn 300 60 f) (fm_is (g := LG1) ov0_ok1 60 f args [] out h)
end Go.Proofs.YtpngkkalomiggaaGreatDoor
