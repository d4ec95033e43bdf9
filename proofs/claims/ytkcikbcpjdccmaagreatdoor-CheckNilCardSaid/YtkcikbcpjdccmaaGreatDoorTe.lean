/- CheckNil returns true for every input and leaves what it read as it was. Conditions: none beyond the statement's own. -/
import Derived.Test.YtkcikbcpjdccmaaGreatDoorSE
import Derived.Test.YtkcikbcpjdccmaaGreatDoorTw
import Derived.Test.YtkcikbcpjdccmaaGreatDoorTf
set_option linter.all false
namespace Go.Proofs.YtkcikbcpjdccmaaGreatDoor
open Go Go.AH Go.ChangeShapes Go.WideShapes Go.ChangeAt Go.RowKit
noncomputable section
set_option maxRecDepth 100000 in
def aJT(os:Os)(started:os.Started)(H:Type)(enc:TypeId×Value->H)(F:Stop.Interp):
  ReturnsInHanded {} Tryz.checked os 3 .any ((OpenSpec.ofChange Rows.checkNilSpec).preRow enc Tryz.prog Tryz.f3 Rows.checkNilRow.domain false Rows.checkNilRow.laid) (((OpenSpec.ofChange Rows.checkNilSpec).at F).post enc Tryz.prog Tryz.f3 false true false false):=by
 obtain⟨places,hx⟩:=aJJ os enc;refine returnsInHanded_of_row (C:=Tryz.checked) (s:=OpenSpec.ofChange Rows.checkNilSpec) aI' started ae Tryz.func3
  (witness_row_atRef (enc:=enc) (C:=Tryz.checked) false (Bu os) uZ rfl (aJG os) (aJH os) (aJI os)
   (OpenSpec.preRow_of_cond 8 hx ae (λk hk=>by cases hk) (aJK os enc) (aJF os))) ?_
 intro W base args ds gs before ov hW _ _ _ hL _ _;exact aJD H enc W base args ds gs before ov hW hL
def aJU:Rows.CheckNilSaid:=
 OpenClaim.holds_of_cond 3 Tryz.f3 rfl rfl rfl rfl rfl rfl rfl ⟨rfl,rfl,rfl,rfl,rfl⟩ rfl rfl rfl rfl rfl ae Tryz.func3 aJS
  (ff ae) (by unfold Func.isWrapper;first | (rw[if_pos (by decide+kernel)];kernel_rfl) | (rw[if_neg (by decide+kernel)];exact⟨rfl,rfl⟩))
  (λos started H enc _ F=>by rw[OpenClaim.pre_eq_preRow];exact aJT os started H enc F)
def aJV(f:FuncId)(fn:Func)(hf:Tryz.pinned.checked.prog.funcNamed "rewind/rewindlaw15.CheckNil" =some f)(xC:Tryz.pinned.checked.prog.funcs[f]? =some fn):
  true=Tryz.pinned.checked.prog.looks []/\∀(j:Nat) t,fn.params[j]? =some t->Tryz.pinned.checked.prog.wantsStandIn t=false:=by
 obtain rfl:f=3:=Option.some.inj ((show Tryz.prog.funcNamed "rewind/rewindlaw15.CheckNil" =some 3 from ae).symm.trans hf) |>.symm;obtain rfl:fn=Tryz.f3:=(Option.some.inj (Tryz.func3.symm.trans xC)).symm;refine⟨ae,λj t ht=> ?_⟩;rw[Tryz.params3]at ht;have hm:t∈ [9,9]:=by simpa using Array.mem_of_getElem? ht
 have il:([9,9].all λu=> !Tryz.prog.wantsStandIn u)=true:=ae;exact(show Tryz.prog.wantsStandIn t=false by simpa using List.all_eq_true.1 il t hm)
def checkNil_card:Rows.CheckNilCardSaid:=
 Claim7.holds_tied_plain_at .later [] _ _ _ _ aJU (λ_ h=>by cases h) ae (λ_ h=>by cases h) checkNil_row_tie rfl ⟨rfl,rfl⟩ ae rfl aJV ae
end
end Go.Proofs.YtkcikbcpjdccmaaGreatDoor
