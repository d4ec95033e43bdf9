/- A part of the proof: FFA, FFB, FFC. -/
import Derived.Test.YtpngkkalomiggaaGreatDoorVb
set_option linter.all false
namespace Go.Proofs.YtpngkkalomiggaaGreatDoor
open Go Go.AH

def aA_0 : List V := []
def oA_0 : Out := .ret (.seq 9 [(.str [102, 117, 110, 99]), (.str [118, 97, 114]), (.str [105, 102]), (.str [101, 108, 115, 101]), (.str [119, 104, 105, 108, 101]), (.str [114, 101, 116, 117, 114, 110]), (.str [112, 114, 105, 110, 116]), (.str [114, 101, 97, 100]), (.str [110, 101, 119]), (.str [108, 101, 110]), (.str [105, 110, 116]), (.str [98, 111, 111, 108]), (.str [97, 114, 114, 97, 121]), (.str [116, 114, 117, 101]), (.str [102, 97, 108, 115, 101])]) []
theorem tA_0 : fm T gl LGa kn0 ov0 300 60 155 aA_0 [] = some oA_0 := by kernel_rfl
theorem fA_0 : FactAt Tryz.prog LGa 155 aA_0 oA_0 := factA kn0_ok tA_0
def aA_1 : List V := []
def oA_1 : Out := .ret (.seq 306 [(.agg [(.bool false), (.bool false), (.bool false), (.bool false), (.bool false), (.bool false), (.int .i64 0), (.int .i64 0)]), (.agg [(.bool true), (.bool false), (.bool true), (.bool false), (.bool false), (.bool false), (.int .i64 0), (.int .i64 1)]), (.agg [(.bool true), (.bool false), (.bool false), (.bool false), (.bool false), (.bool false), (.int .i64 1), (.int .i64 1)]), (.agg [(.bool true), (.bool false), (.bool false), (.bool false), (.bool false), (.bool false), (.int .i64 2), (.int .i64 2)]), (.agg [(.bool true), (.bool false), (.bool false), (.bool false), (.bool false), (.bool false), (.int .i64 1), (.int .i64 1)]), (.agg [(.bool true), (.bool false), (.bool false), (.bool false), (.bool false), (.bool false), (.int .i64 0), (.int .i64 0)]), (.agg [(.bool false), (.bool false), (.bool false), (.bool false), (.bool false), (.bool false), (.int .i64 1), (.int .i64 1)]), (.agg [(.bool false), (.bool true), (.bool false), (.bool true), (.bool false), (.bool false), (.int .i64 0), (.int .i64 8)]), (.agg [(.bool false), (.bool false), (.bool false), (.bool false), (.bool false), (.bool false), (.int .i64 0), (.int .i64 1)]), (.agg [(.bool false), (.bool false), (.bool false), (.bool false), (.bool true), (.bool true), (.int .i64 1), (.int .i64 1)]), (.agg [(.bool false), (.bool false), (.bool false), (.bool false), (.bool true), (.bool false), (.int .i64 1), (.int .i64 1)])]) []
theorem tA_1 : fm T gl LGa kn0 ov0 300 60 202 aA_1 [] = some oA_1 := by kernel_rfl
theorem fA_1 : FactAt Tryz.prog LGa 202 aA_1 oA_1 := factA kn0_ok tA_1
def aA_2 : List V := []
def oA_2 : Out := .ret (.seq 376 [(.agg [(.bool false), (.int .i64 0), (.int .i64 0), (.int .i64 0), (.int .i64 0)]), (.agg [(.bool false), (.int .i64 0), (.int .i64 0), (.int .i64 (-1)), (.int .i64 0)]), (.agg [(.bool false), (.int .i64 0), (.int .i64 0), (.int .i64 1), (.int .i64 0)]), (.agg [(.bool true), (.int .i64 0), (.int .i64 0), (.int .i64 0), (.int .i64 0)]), (.agg [(.bool false), (.int .i64 14), (.int .i64 15), (.int .i64 0), (.int .i64 1)]), (.agg [(.bool false), (.int .i64 1), (.int .i64 13), (.int .i64 0), (.int .i64 2)]), (.agg [(.bool true), (.int .i64 0), (.int .i64 0), (.int .i64 0), (.int .i64 1)]), (.agg [(.bool true), (.int .i64 0), (.int .i64 0), (.int .i64 0), (.int .i64 0)])]) []
theorem tA_2 : fm T gl LGa kn0 ov0 300 60 269 aA_2 [] = some oA_2 := by kernel_rfl
theorem fA_2 : FactAt Tryz.prog LGa 269 aA_2 oA_2 := factA kn0_ok tA_2
def aA_3 : List V := []
def oA_3 : Out := .ret (.seq 431 [(.agg [(.str [43]), (.int .i64 4)]), (.agg [(.str [45]), (.int .i64 4)]), (.agg [(.str [42]), (.int .i64 5)]), (.agg [(.str [47]), (.int .i64 5)]), (.agg [(.str [37]), (.int .i64 5)]), (.agg [(.str [61, 61]), (.int .i64 3)]), (.agg [(.str [33, 61]), (.int .i64 3)]), (.agg [(.str [60]), (.int .i64 3)]), (.agg [(.str [60, 61]), (.int .i64 3)]), (.agg [(.str [62]), (.int .i64 3)]), (.agg [(.str [62, 61]), (.int .i64 3)]), (.agg [(.str [38, 38]), (.int .i64 2)]), (.agg [(.str [124, 124]), (.int .i64 1)]), (.agg [(.str [45]), (.int .i64 0)]), (.agg [(.str [33]), (.int .i64 0)])]) []
theorem tA_3 : fm T gl LGa kn0 ov0 300 60 306 aA_3 [] = some oA_3 := by kernel_rfl
theorem fA_3 : FactAt Tryz.prog LGa 306 aA_3 oA_3 := factA kn0_ok tA_3
def aA_4 : List V := []
def oA_4 : Out := .ret (.seq 292 [(.agg [(.str [118, 97, 114]), (.clo 225 [] [])]), (.agg [(.str [114, 101, 97, 100]), (.clo 226 [] [])]), (.agg [(.str [112, 114, 105, 110, 116]), (.clo 227 [] [])]), (.agg [(.str [114, 101, 116, 117, 114, 110]), (.clo 228 [] [])]), (.agg [(.str [105, 102]), (.clo 229 [] [])]), (.agg [(.str [119, 104, 105, 108, 101]), (.clo 230 [] [])])]) []
theorem tA_4 : fm T gl LGa kn0 ov0 300 60 191 aA_4 [] = some oA_4 := by kernel_rfl
theorem fA_4 : FactAt Tryz.prog LGa 191 aA_4 oA_4 := factA kn0_ok tA_4
def aA_5 : List V := []
def oA_5 : Out := .ret (.agg [(.int .i64 0), (.int .i64 0), (.int .i64 0), (.int .i64 1), (.int .i64 0), (.int .i64 3), (.int .i64 2), (.int .i64 0)]) []
theorem tA_5 : fm T gl LGa kn0 ov0 300 60 61 aA_5 [] = some oA_5 := by kernel_rfl
theorem fA_5 : FactAt Tryz.prog LGa 61 aA_5 oA_5 := factA kn0_ok tA_5
def aA_6 : List V := [.str [65, 66, 67, 68, 69, 70, 71, 72, 73, 74, 75, 76, 77, 78, 79, 80, 81, 82, 83, 84, 85, 86, 87, 88, 89, 90, 97, 98, 99, 100, 101, 102, 103, 104, 105, 106, 107, 108, 109, 110, 111, 112, 113, 114, 115, 116, 117, 118, 119, 120, 121, 122, 48, 49, 50, 51, 52, 53, 54, 55, 56, 57, 95]]
def oA_6 : Out := .ret (.tup [(.agg [(.bool false), (.bool false), (.bool false), (.bool false), (.bool false), (.bool false), (.bool false), (.bool false), (.bool false), (.bool false), (.bool false), (.bool false), (.bool false), (.bool false), (.bool false), (.bool false), (.bool false), (.bool false), (.bool false), (.bool false), (.bool false), (.bool false), (.bool false), (.bool false), (.bool false), (.bool false), (.bool false), (.bool false), (.bool false), (.bool false), (.bool false), (.bool false), (.bool false), (.bool false), (.bool false), (.bool false), (.bool false), (.bool false), (.bool false), (.bool false), (.bool false), (.bool false), (.bool false), (.bool false), (.bool false), (.bool false), (.bool false), (.bool false), (.bool true), (.bool true), (.bool true), (.bool true), (.bool true), (.bool true), (.bool true), (.bool true), (.bool true), (.bool true), (.bool false), (.bool false), (.bool false), (.bool false), (.bool false), (.bool false), (.bool false), (.bool true), (.bool true), (.bool true), (.bool true), (.bool true), (.bool true), (.bool true), (.bool true), (.bool true), (.bool true), (.bool true), (.bool true), (.bool true), (.bool true), (.bool true), (.bool true), (.bool true), (.bool true), (.bool true), (.bool true), (.bool true), (.bool true), (.bool true), (.bool true), (.bool true), (.bool true), (.bool false), (.bool false), (.bool false), (.bool false), (.bool true), (.bool false), (.bool true), (.bool true), (.bool true), (.bool true), (.bool true), (.bool true), (.bool true), (.bool true), (.bool true), (.bool true), (.bool true), (.bool true), (.bool true), (.bool true), (.bool true), (.bool true), (.bool true), (.bool true), (.bool true), (.bool true), (.bool true), (.bool true), (.bool true), (.bool true), (.bool true), (.bool true), (.bool false), (.bool false), (.bool false), (.bool false), (.bool false), (.bool false), (.bool false), (.bool false), (.bool false), (.bool false), (.bool false), (.bool false), (.bool false), (.bool false), (.bool false), (.bool false), (.bool false), (.bool false), (.bool false), (.bool false), (.bool false), (.bool false), (.bool false), (.bool false), (.bool false), (.bool false), (.bool false), (.bool false), (.bool false), (.bool false), (.bool false), (.bool false), (.bool false), (.bool false), (.bool false), (.bool false), (.bool false), (.bool false), (.bool false), (.bool false), (.bool false), (.bool false), (.bool false), (.bool false), (.bool false), (.bool false), (.bool false), (.bool false), (.bool false), (.bool false), (.bool false), (.bool false), (.bool false), (.bool false), (.bool false), (.bool false), (.bool false), (.bool false), (.bool false), (.bool false), (.bool false), (.bool false), (.bool false), (.bool false), (.bool false), (.bool false), (.bool false), (.bool false), (.bool false), (.bool false), (.bool false), (.bool false), (.bool false), (.bool false), (.bool false), (.bool false), (.bool false), (.bool false), (.bool false), (.bool false), (.bool false), (.bool false), (.bool false), (.bool false), (.bool false), (.bool false), (.bool false), (.bool false), (.bool false), (.bool false), (.bool false), (.bool false), (.bool false), (.bool false), (.bool false), (.bool false), (.bool false), (.bool false), (.bool false), (.bool false), (.bool false), (.bool false), (.bool false), (.bool false), (.bool false), (.bool false), (.bool false), (.bool false), (.bool false), (.bool false), (.bool false), (.bool false), (.bool false), (.bool false), (.bool false), (.bool false), (.bool false), (.bool false), (.bool false), (.bool false), (.bool false), (.bool false), (.bool false), (.bool false), (.bool false), (.bool false), (.bool false), (.bool false), (.bool false), (.bool false), (.bool false), (.bool false), (.bool false)]), (.bool true)]) []
theorem tA_6 : fm T gl LGa kn0 ov0 300 60 196 aA_6 [] = some oA_6 := by kernel_rfl
theorem fA_6 : FactAt Tryz.prog LGa 196 aA_6 oA_6 := factA kn0_ok tA_6

noncomputable def ktA : Tab Facts := (.node 196 [(aA_6, oA_6)] (.node 155 [(aA_0, oA_0)] (.node 61 [(aA_5, oA_5)] .leaf .leaf) (.node 191 [(aA_4, oA_4)] .leaf .leaf)) (.node 269 [(aA_2, oA_2)] (.node 202 [(aA_1, oA_1)] .leaf .leaf) (.node 306 [(aA_3, oA_3)] .leaf .leaf)))
theorem ktA_all : KnAll ktA := ⟨⟨fA_6, trivial⟩, ⟨⟨fA_0, trivial⟩, ⟨⟨fA_5, trivial⟩, trivial, trivial⟩, ⟨⟨fA_4, trivial⟩, trivial, trivial⟩⟩, ⟨⟨fA_2, trivial⟩, ⟨⟨fA_1, trivial⟩, trivial, trivial⟩, ⟨⟨fA_3, trivial⟩, trivial, trivial⟩⟩⟩
noncomputable def knA : FuncId → Option Facts := ktA.find
theorem knA_ok : KnOk Tryz.prog LGa knA := knOf ktA_all
end Go.Proofs.YtpngkkalomiggaaGreatDoor

namespace Go.Proofs.YtpngkkalomiggaaGreatDoor
open Go Go.AH

def aB_0 : List V := [.str [109, 97, 105, 110]]
def oB_0 : Out := .ret (.bool true) []
theorem tB_0 : fm T gl LGa knA ov0 300 60 117 aB_0 [] = some oB_0 := by kernel_rfl
theorem fB_0 : FactAt Tryz.prog LGa 117 aB_0 oB_0 := factA knA_ok tB_0
def aB_1 : List V := [.str [102]]
def oB_1 : Out := .ret (.bool true) []
theorem tB_1 : fm T gl LGa knA ov0 300 60 117 aB_1 [] = some oB_1 := by kernel_rfl
theorem fB_1 : FactAt Tryz.prog LGa 117 aB_1 oB_1 := factA knA_ok tB_1
def aB_2 : List V := [.str [110]]
def oB_2 : Out := .ret (.bool true) []
theorem tB_2 : fm T gl LGa knA ov0 300 60 117 aB_2 [] = some oB_2 := by kernel_rfl
theorem fB_2 : FactAt Tryz.prog LGa 117 aB_2 oB_2 := factA knA_ok tB_2
def aB_3 : List V := [.str [97]]
def oB_3 : Out := .ret (.bool true) []
theorem tB_3 : fm T gl LGa knA ov0 300 60 117 aB_3 [] = some oB_3 := by kernel_rfl
theorem fB_3 : FactAt Tryz.prog LGa 117 aB_3 oB_3 := factA knA_ok tB_3
def aB_4 : List V := [.str [98]]
def oB_4 : Out := .ret (.bool true) []
theorem tB_4 : fm T gl LGa knA ov0 300 60 117 aB_4 [] = some oB_4 := by kernel_rfl
theorem fB_4 : FactAt Tryz.prog LGa 117 aB_4 oB_4 := factA knA_ok tB_4
def aB_5 : List V := [.str [107]]
def oB_5 : Out := .ret (.bool true) []
theorem tB_5 : fm T gl LGa knA ov0 300 60 117 aB_5 [] = some oB_5 := by kernel_rfl
theorem fB_5 : FactAt Tryz.prog LGa 117 aB_5 oB_5 := factA knA_ok tB_5

noncomputable def ktB : Tab Facts := (.node 196 [(aA_6, oA_6)] (.node 155 [(aA_0, oA_0)] (.node 117 [(aB_0, oB_0), (aB_1, oB_1), (aB_2, oB_2), (aB_3, oB_3), (aB_4, oB_4), (aB_5, oB_5)] (.node 61 [(aA_5, oA_5)] .leaf .leaf) .leaf) (.node 191 [(aA_4, oA_4)] .leaf .leaf)) (.node 269 [(aA_2, oA_2)] (.node 202 [(aA_1, oA_1)] .leaf .leaf) (.node 306 [(aA_3, oA_3)] .leaf .leaf)))
theorem ktB_all : KnAll ktB := ⟨⟨fA_6, trivial⟩, ⟨⟨fA_0, trivial⟩, ⟨⟨fB_0, ⟨fB_1, ⟨fB_2, ⟨fB_3, ⟨fB_4, ⟨fB_5, trivial⟩⟩⟩⟩⟩⟩, ⟨⟨fA_5, trivial⟩, trivial, trivial⟩, trivial⟩, ⟨⟨fA_4, trivial⟩, trivial, trivial⟩⟩, ⟨⟨fA_2, trivial⟩, ⟨⟨fA_1, trivial⟩, trivial, trivial⟩, ⟨⟨fA_3, trivial⟩, trivial, trivial⟩⟩⟩
noncomputable def knB : FuncId → Option Facts := ktB.find
theorem knB_ok : KnOk Tryz.prog LGa knB := knOf ktB_all
end Go.Proofs.YtpngkkalomiggaaGreatDoor

namespace Go.Proofs.YtpngkkalomiggaaGreatDoor
open Go Go.AH

def aC_0 : List V := [.str [102, 117, 110, 99, 32, 102, 40, 110, 32, 105, 110, 116, 44, 32, 97, 32, 97, 114, 114, 97, 121, 41, 32, 105, 110, 116, 32, 123, 32, 118, 97, 114, 32, 98, 32, 98, 111, 111, 108, 59, 32, 105, 102, 32, 110, 32, 60, 32, 49, 32, 123, 32, 118, 97, 114, 32, 107, 32, 105, 110, 116, 32, 61, 32, 55, 59, 32, 114, 101, 116, 117, 114, 110, 32, 107, 59, 32, 125, 32, 114, 101, 116, 117, 114, 110, 32, 108, 101, 110, 40, 97, 41, 59, 32, 125, 32, 102, 117, 110, 99, 32, 109, 97, 105, 110, 40, 41, 32, 123, 32, 125]]
def oC_0 : Out := .ret (.tup [(.seq 102 [(.agg [(.int .i64 3), (.str [102, 117, 110, 99]), (.int .i64 0)]), (.agg [(.int .i64 1), (.str [102]), (.int .i64 5)]), (.agg [(.int .i64 4), (.str [40]), (.int .i64 6)]), (.agg [(.int .i64 1), (.str [110]), (.int .i64 7)]), (.agg [(.int .i64 3), (.str [105, 110, 116]), (.int .i64 9)]), (.agg [(.int .i64 4), (.str [44]), (.int .i64 12)]), (.agg [(.int .i64 1), (.str [97]), (.int .i64 14)]), (.agg [(.int .i64 3), (.str [97, 114, 114, 97, 121]), (.int .i64 16)]), (.agg [(.int .i64 4), (.str [41]), (.int .i64 21)]), (.agg [(.int .i64 3), (.str [105, 110, 116]), (.int .i64 23)]), (.agg [(.int .i64 4), (.str [123]), (.int .i64 27)]), (.agg [(.int .i64 3), (.str [118, 97, 114]), (.int .i64 29)]), (.agg [(.int .i64 1), (.str [98]), (.int .i64 33)]), (.agg [(.int .i64 3), (.str [98, 111, 111, 108]), (.int .i64 35)]), (.agg [(.int .i64 4), (.str [59]), (.int .i64 39)]), (.agg [(.int .i64 3), (.str [105, 102]), (.int .i64 41)]), (.agg [(.int .i64 1), (.str [110]), (.int .i64 44)]), (.agg [(.int .i64 4), (.str [60]), (.int .i64 46)]), (.agg [(.int .i64 2), (.str [49]), (.int .i64 48)]), (.agg [(.int .i64 4), (.str [123]), (.int .i64 50)]), (.agg [(.int .i64 3), (.str [118, 97, 114]), (.int .i64 52)]), (.agg [(.int .i64 1), (.str [107]), (.int .i64 56)]), (.agg [(.int .i64 3), (.str [105, 110, 116]), (.int .i64 58)]), (.agg [(.int .i64 4), (.str [61]), (.int .i64 62)]), (.agg [(.int .i64 2), (.str [55]), (.int .i64 64)]), (.agg [(.int .i64 4), (.str [59]), (.int .i64 65)]), (.agg [(.int .i64 3), (.str [114, 101, 116, 117, 114, 110]), (.int .i64 67)]), (.agg [(.int .i64 1), (.str [107]), (.int .i64 74)]), (.agg [(.int .i64 4), (.str [59]), (.int .i64 75)]), (.agg [(.int .i64 4), (.str [125]), (.int .i64 77)]), (.agg [(.int .i64 3), (.str [114, 101, 116, 117, 114, 110]), (.int .i64 79)]), (.agg [(.int .i64 3), (.str [108, 101, 110]), (.int .i64 86)]), (.agg [(.int .i64 4), (.str [40]), (.int .i64 89)]), (.agg [(.int .i64 1), (.str [97]), (.int .i64 90)]), (.agg [(.int .i64 4), (.str [41]), (.int .i64 91)]), (.agg [(.int .i64 4), (.str [59]), (.int .i64 92)]), (.agg [(.int .i64 4), (.str [125]), (.int .i64 94)]), (.agg [(.int .i64 3), (.str [102, 117, 110, 99]), (.int .i64 96)]), (.agg [(.int .i64 1), (.str [109, 97, 105, 110]), (.int .i64 101)]), (.agg [(.int .i64 4), (.str [40]), (.int .i64 105)]), (.agg [(.int .i64 4), (.str [41]), (.int .i64 106)]), (.agg [(.int .i64 4), (.str [123]), (.int .i64 108)]), (.agg [(.int .i64 4), (.str [125]), (.int .i64 110)])]), (.int .i64 0), (.int .i64 0)]) []
theorem tC_0 : fm T gl LGa knB ov0 300 60 38 aC_0 [] = some oC_0 := by kernel_rfl
theorem fC_0 : FactAt Tryz.prog LGa 38 aC_0 oC_0 := factA knB_ok tC_0
def aC_1 : List V := [.str [102, 117, 110, 99, 32, 109, 97, 105, 110, 40, 41, 32, 123, 32, 125]]
def oC_1 : Out := .ret (.tup [(.seq 102 [(.agg [(.int .i64 3), (.str [102, 117, 110, 99]), (.int .i64 0)]), (.agg [(.int .i64 1), (.str [109, 97, 105, 110]), (.int .i64 5)]), (.agg [(.int .i64 4), (.str [40]), (.int .i64 9)]), (.agg [(.int .i64 4), (.str [41]), (.int .i64 10)]), (.agg [(.int .i64 4), (.str [123]), (.int .i64 12)]), (.agg [(.int .i64 4), (.str [125]), (.int .i64 14)])]), (.int .i64 0), (.int .i64 0)]) []
theorem tC_1 : fm T gl LGa knB ov0 300 60 38 aC_1 [] = some oC_1 := by kernel_rfl
theorem fC_1 : FactAt Tryz.prog LGa 38 aC_1 oC_1 := factA knB_ok tC_1

noncomputable def ktC : Tab Facts := (.node 191 [(aA_4, oA_4)] (.node 117 [(aB_0, oB_0), (aB_1, oB_1), (aB_2, oB_2), (aB_3, oB_3), (aB_4, oB_4), (aB_5, oB_5)] (.node 61 [(aA_5, oA_5)] (.node 38 [(aC_0, oC_0), (aC_1, oC_1)] .leaf .leaf) .leaf) (.node 155 [(aA_0, oA_0)] .leaf .leaf)) (.node 269 [(aA_2, oA_2)] (.node 202 [(aA_1, oA_1)] (.node 196 [(aA_6, oA_6)] .leaf .leaf) .leaf) (.node 306 [(aA_3, oA_3)] .leaf .leaf)))
theorem ktC_all : KnAll ktC := ⟨⟨fA_4, trivial⟩, ⟨⟨fB_0, ⟨fB_1, ⟨fB_2, ⟨fB_3, ⟨fB_4, ⟨fB_5, trivial⟩⟩⟩⟩⟩⟩, ⟨⟨fA_5, trivial⟩, ⟨⟨fC_0, ⟨fC_1, trivial⟩⟩, trivial, trivial⟩, trivial⟩, ⟨⟨fA_0, trivial⟩, trivial, trivial⟩⟩, ⟨⟨fA_2, trivial⟩, ⟨⟨fA_1, trivial⟩, ⟨⟨fA_6, trivial⟩, trivial, trivial⟩, trivial⟩, ⟨⟨fA_3, trivial⟩, trivial, trivial⟩⟩⟩
noncomputable def knC : FuncId → Option Facts := ktC.find
theorem knC_ok : KnOk Tryz.prog LGa knC := knOf ktC_all
end Go.Proofs.YtpngkkalomiggaaGreatDoor
