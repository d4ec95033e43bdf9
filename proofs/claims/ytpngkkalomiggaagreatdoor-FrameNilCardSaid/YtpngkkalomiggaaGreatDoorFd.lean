/- A part of the proof: FFG. -/
import Derived.Test.YtpngkkalomiggaaGreatDoorFc
set_option linter.all false
namespace Go.Proofs.YtpngkkalomiggaaGreatDoor
open Go Go.AH Go.RowKit
def aG_0 : List V := []
def oG_0 : Out := .ret (.bool true) []
theorem tG_0 : fm T gl LG1 knF ov0 300 60 11 aG_0 [] = some oG_0 := by kernel_rfl
theorem fG_0 : FactAt Tryz.prog LGa 11 aG_0 oG_0 := factI knF_ok tG_0
noncomputable def ktG : Tab Facts := (.node 61 [(aA_5, oA_5)] (.node 42 [(aD_2, oD_2), (aD_3, oD_3), (aD_4, oD_4)] (.node 12 [(aD_0, oD_0), (aD_1, oD_1)] (.node 11 [(aG_0, oG_0)] (.node 4 [(aF_0, oF_0), (aF_1, oF_1)] .leaf .leaf) .leaf) (.node 38 [(aC_0, oC_0), (aC_1, oC_1)] .leaf .leaf)) (.node 44 [(aE_0, oE_0), (aE_1, oE_1)] (.node 43 [(aE_2, oE_2), (aE_3, oE_3)] .leaf .leaf) (.node 45 [(aE_4, oE_4), (aE_5, oE_5), (aE_6, oE_6)] .leaf .leaf))) (.node 196 [(aA_6, oA_6)] (.node 155 [(aA_0, oA_0)] (.node 117 [(aB_0, oB_0), (aB_1, oB_1), (aB_2, oB_2), (aB_3, oB_3), (aB_4, oB_4), (aB_5, oB_5)] .leaf .leaf) (.node 191 [(aA_4, oA_4)] .leaf .leaf)) (.node 269 [(aA_2, oA_2)] (.node 202 [(aA_1, oA_1)] .leaf .leaf) (.node 306 [(aA_3, oA_3)] .leaf .leaf))))
theorem ktG_all : KnAll ktG := ⟨⟨fA_5, trivial⟩, ⟨⟨fD_2, ⟨fD_3, ⟨fD_4, trivial⟩⟩⟩, ⟨⟨fD_0, ⟨fD_1, trivial⟩⟩, ⟨⟨fG_0, trivial⟩, ⟨⟨fF_0, ⟨fF_1, trivial⟩⟩, trivial, trivial⟩, trivial⟩, ⟨⟨fC_0, ⟨fC_1, trivial⟩⟩, trivial, trivial⟩⟩, ⟨⟨fE_0, ⟨fE_1, trivial⟩⟩, ⟨⟨fE_2, ⟨fE_3, trivial⟩⟩, trivial, trivial⟩, ⟨⟨fE_4, ⟨fE_5, ⟨fE_6, trivial⟩⟩⟩, trivial, trivial⟩⟩⟩, ⟨⟨fA_6, trivial⟩, ⟨⟨fA_0, trivial⟩, ⟨⟨fB_0, ⟨fB_1, ⟨fB_2, ⟨fB_3, ⟨fB_4, ⟨fB_5, trivial⟩⟩⟩⟩⟩⟩, trivial, trivial⟩, ⟨⟨fA_4, trivial⟩, trivial, trivial⟩⟩, ⟨⟨fA_2, trivial⟩, ⟨⟨fA_1, trivial⟩, trivial, trivial⟩, ⟨⟨fA_3, trivial⟩, trivial, trivial⟩⟩⟩⟩
noncomputable def knG : FuncId → Option Facts := ktG.find
theorem knG_ok : KnOk Tryz.prog LGa knG := knOf ktG_all
end Go.Proofs.YtpngkkalomiggaaGreatDoor
