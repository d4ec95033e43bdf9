/- A part of the proof. -/
import Derived.Test.YtkcikbcpjdccmaaGreatDoorSC
set_option linter.all false
namespace Go.Proofs.YtkcikbcpjdccmaaGreatDoor
open Go Go.AH Go.RowKit Go.Proofs.Tryz
open Go.IntKind (i64)
set_option maxRecDepth 100000
noncomputable section
variable{n:Nat}{w:World}{O:Nat->Prop}{x:Operand}{l:List aa}{m:Nat}{nm:List UInt8}{ps:List aa}{rs:Int}{bo:List aa}{ct:Int}{f:aa}{d:Nat}{blk:List aa}{no:Int}{e:TypeId}{a:Act}{t:TypeId}{v:Value}{zs:List Int}{P:Program}{k:Nat}{α:Type}{b:Nat}{y:Operand}{fl o:List aa}{arr:Array Value}{w':World}{ty:TypeId}{kd:IntKind}
def aBE:=aR 95 RH ae
def agD:=aR 96 Aw ae
def aBF:=aR 97 RI ae
def aBG:=aR 130 RJ ae
def aBH:=aR 54 RK ae
def Mm(sg vs:List aa)(r:Int):aa:=.u [.d 48 sg,.d 72 vs,.c .i64 r]
def A7(vs:List aa)(nm:List UInt8)(k no:Int):Int×Int:=bif !(nm==[])then(bif k==1 then(0,0)else wS vs no nm)else(0,0)
def VU:aq
 | [.u [.d 48 _,.d 72 vs,.c .i64 _],.u [.c .i64 k,.c .i64 no,.h nm,.c .i64 _,.h _,.d 177 _,.d 97 _,.d 97 _]],[]=>.I (decide (vs.length<=bP)) (.g (.a (.q [.c .i64 (A7 vs nm k no).1,.c .i64 (A7 vs nm k no).2]) []))
 |_,_=>.d
def aBI(sg vs r k no ty nm ca ar bo el):(aI (ay an (aL [(128,Mj)]) RH aK) false f95 [Mm sg vs r,dL k no nm ty ca ar bo el] []).D=((letI ai:af aC:=al (.q [ah 0,ah 0]) [];letI ak:=bc (kl nm no) vs 0;af.c (!nm==[]) (.c (k==1) ai (.c (decide (vs.length<=cg)) (.c (!ak.isSome) (al (.q [ah 0,ah 11]) []) (.c (decide (0<=gm ak) &&decide (gm ak<(↑vs.length:Int))) (al (.q [ah ((vs.getD (gm ak).toNat .m).D 1).I,ah 0]) []) .d)) .d)) ai):af aC).D:=ae
def aBJ:aH 95 VU:=bI (aA ags aQ) aBE λq u v h=>by
 unfold VU at h;split at h
 ·rename_i sg vs r k no nm ty ca ar bo el;obtain⟨h1,h2⟩:=aO h;refine(aBI sg vs r k no ty nm ca ar bo el).trans (bS ?_ h2);show _=some (G' (A7 vs nm k no));refine bK (λ_=>bK (λ_=>rfl) λ_=>aZ h1 ?_) λ_=>rfl;have hl:=CT (p:=kl nm no) vs 0;unfold wS;cases hf:bc (kl nm no) vs 0 with
  |none=>rfl
  |some i=>have hi:=(hl i hf).2;exact kK rfl (aZ (jk (show i<vs.length from ab)) rfl)
 ·cases h
def VV(sg vs:List aa)(r:Int):aj:=.a false [.d 48 sg,.d 72 vs,.c .i64 r]
def VW(k no ty:Int)(nm ca:List UInt8)(ar bo el:List aa):aj:=.a false [.c .i64 k,.c .i64 no,.h nm,.c .i64 ty,.h ca,.d 177 ar,.d 97 bo,.d 97 el]
def Mn:FuncId->aq:=aL [(129,VT)]
def agE(sg vs r k no ty nm ca ar bo el es x n len i):(cB (ay an Mn Aw aK) 0 3 (cq Aw 0) [.e 0 0,.e 1 0,.y 3 2 0 n,.d 177 es,ah len,ah i] [VV sg vs r,VW k no ty nm ca ar bo el,.b false 0 3 x]).D=((letI ai:=lT vs no (bB (es.getD i.toNat .m));letI ak:=x++ [aa.c .i64 ai.fst];af.c (decide (i<len)) (.c (decide (0<=i) &&decide (i<(↑es.length:Int))) (.c (decide (vs.length<=cg)) (.c (ai.snd !=0) (.g ((.c,[.y 3 0 0 0,ah ai.snd,.y 3 1 0 n],[.b false 0 3 [],.b false 0 3 x]))) (.c (decide (x.length+1<=4294967296)) (.g ((.b,[.e 0 0,.e 1 0,.y 3 2 0 ak.length,.d 177 es,ah len,ah (i64.wrap (i+1))],[az [.d 48 sg,.d 72 vs,ah r],az [ah k,ah no,.h nm,ah ty,.h ca,.d 177 ar,.d 97 bo,.d 97 el],.b false 0 3 ak]))) .d)) .d) .d) (.g ((.a 0,[.m,.m,.y 3 0 0 n],[.b false 0 3 x])))):af (aU×List aa×List aj)).D:=ae
def aBK(sg vs)(r k no ty:Int)(nm ca ar bo el es)(hl:vs.length<=bP)(Ci:es.length<=1000):
  bw an Mn Aw 0 3 [.e 0 0,.e 1 0,.y 3 2 0 0,.d 177 es,.c .i64 (es.length:Int),.c .i64 0] [VV sg vs r,VW k no ty nm ca ar bo el,.b false 0 3 []] (ml Hc Ml (cR (lS (lT vs no)) es [])):=by
 refine pz agD 0 ae ae cv (λn x=> [.e 0 0,.e 1 0,.y 3 2 0 x.length,.d 177 es,.c .i64 (es.length:Int),.c .i64 n]) (λ_ x=> [VV sg vs r,VW k no ty nm ca ar bo el,.b false 0 3 x]) (lS (lT vs no)) Hc Ml (λn x=>x.length=n) es [] rfl ?_ ?_
 ·intro n x hn hx;refine oF (agE sg vs r k no ty nm ca ar bo el es x x.length (es.length:Int) n) (dB (mm hn) (dB (jk hn) (dB (aD hl) (jl (λ_=>ke rfl rfl) λ_=>dB (aD (show x.length+1<=4294967296 from ab)) (jI ?_ ?_)))))
  ·rw[mn hn (by have:bP=9223372036854775807:=rfl;omega)];rfl
  ·show(x++ [_]).length=n+1;simp;omega
 ·intro x hx;have e:=agE sg vs r k no ty nm ca ar bo el es x x.length (es.length:Int) es.length;rw[mP]at e;exact⟨e,rfl⟩
def qB(vs:List aa)(no:Int)(es:List aa):Bool×List aa×Int:=match cR (lS (lT vs no)) es []with | .inl a=>(true,a.1,a.2) | .inr x=>(false,x,0)
def aBL(vs)(no:Int)(es):kU (lT vs no) es=(bif (qB vs no es).1 then[]else(qB vs no es).2.1,(qB vs no es).2.2):=by unfold kU qB;cases cR (lS (lT vs no)) es []<;>rfl
def VX:dk:=λm_ key vs_ os=>match vs_,os with
 | [.e 0 0,.e 1 0,.y 3 2 0 0,.d 177 es,.c .i64 len,.c .i64 0],[.a false [.d 48 _,.d 72 vs,.c .i64 _],.a false [.c .i64 _,.c .i64 no,.h _,.c .i64 _,.h _,.d 177 _,.d 97 _,.d 97 _],.b false 0 3 []]=>
  .I (decide (es.length<=1000) &&decide (vs.length<=bP) &&decide (len=(es.length:Int)) &&Nat.beq m_ 0 &&Nat.beq key 3)
   (.c (qB vs no es).1 (.g (.c,[.y 3 0 0 0,.c .i64 (qB vs no es).2.2,.y 3 1 0 (qB vs no es).2.1.length],[.b false 0 3 [],.b false 0 3 (qB vs no es).2.1])) (.g (.a 0,[.m,.m,.y 3 0 0 (qB vs no es).2.1.length],[.b false 0 3 (qB vs no es).2.1])))
 |_,_=>.d
def aBM:cJ an Mn Aw VX:=by
 intro m_ key vs_ os r_ h;unfold VX at h;split at h
 ·rename_i es len sg vs r k no nm ty ca ar bo el;obtain⟨h1,h2⟩:=aO h;simp only[au,bC,aNx]at h1;obtain⟨⟨⟨⟨Ci,hl⟩,rfl⟩,rfl⟩,rfl⟩:=h1;have h8:=aBK sg vs r k no ty nm ca ar bo el es hl Ci;unfold qB at h2;cases hc:cR (lS (lT vs no)) es []<;>rw[hc]at h2 h8<;>cases h2<;>exact h8
 ·simp[af.D]at h
def aBN(sg vs r k no ty nm ca ar bo el):(aI (ay an Mn Aw VX) false f96 [Mm sg vs r,dL k no nm ty ca ar bo el] []).D=((letI ai:=(↑ar.length:Int);letI ak:=qB vs no ar;af.c (decide (ar.length<=1000) &&decide (vs.length<=cg) &&decide (ai=ai) &&Nat.beq 0 0 &&Nat.beq 3 3) (.c (ak.fst) (al (.q [.d 3 [],ah ak.snd.snd]) []) (al (.q [.d 3 ak.snd.fst,ah 0]) [])) .d):af aC).D:=ae
def VY:aq
 | [.u [.d 48 _,.d 72 vs,.c .i64 _],.u [.c .i64 _,.c .i64 no,.h _,.c .i64 _,.h _,.d 177 ar,.d 97 _,.d 97 _]],[]=>.I (decide (ar.length<=1000) &&decide (vs.length<=bP)) (.g (.a (.q [.d 3 (kU (lT vs no) ar).1,.c .i64 (kU (lT vs no) ar).2]) []))
 |_,_=>.d
def aBO:aH 96 VY:=dN aW c_ (aA aBD aQ) agD rfl aBM λp q u h=>by
 unfold VY at h;split at h
 ·rename_i sg vs r k no nm ty ca ar bo el;obtain⟨h1,h2⟩:=aO h;refine(aBN sg vs r k no ty nm ca ar bo el).trans (bS (aZ ?_ ?_) h2)
  ·have h3:(decide (ar.length<=1000) &&decide (vs.length<=9223372036854775807))=true:=h1;rw[h3,aD rfl];rfl
  ·rw[aBL];unfold qB;cases cR (lS (lT vs no)) ar []<;>rfl
 ·cases h
def VZ:aq| [.d 3 l,.e 0 0],[.a false [.d 3 as_]]=>.I (decide (as_.length<=bP)) (.g (.a (.p (cf fW as_ l)) [.a false [.d 3 as_]])) |_,_=>.d
def aBP(l as_):(aI (ay an (aL [(89,Gw)]) RJ aK) false f130 [.d 3 l,.e 0 0] [az [.d 3 as_]]).D=((af.c (decide (as_.length<=cg)) (al (.p (cf fW as_ l)) [az [.d 3 as_]]) .d)).D:=ae
def aBQ:aH 130 VZ:=bI (aA TA aQ) aBG λp q r h=>by
 unfold VZ at h;split at h
 ·rename_i l as_;exact(aBP l as_).trans h
 ·cases h
def aBR:FuncId->aq:=aL [(130,VZ),(131,Vm)]
def aBS(sg vs as_ r k no ty own nm ca ar bo el):(aI (ay an aBR RI aK) false f97 [Mm sg vs r,dL k no nm ty ca ar bo el,ah own,.d 3 as_] []).D=((letI ai:=(↑as_.length:Int);letI ak:=decide (as_.length<=cg);letI aw:af aC:=.c ak (al (.p (cf fW as_ [ah 2])) []) .d;af.c (k==1) (.c (!ai==0) (.c ak (al (.p (cf fW as_ [ah ty])) []) .d) (al (.p true) [])) (.c (k==2) (.c ak (al (.p (cf fW as_ [ah own])) []) .d) (.c (k==3) (.c (own==3) (.c ak (al (.p (cf fW as_ [ah 1,ah 1])) []) .d) (al (.p false) [])) (.c (k==4) (.c (own==3) (.c ak (al (.p (cf fW as_ [ah 1])) []) .d) (al (.p false) [])) (.c (k==5) (al (.p (own==1)) []) (.c (k==6) (.c ak (.c (!cf fW as_ [ah 1]) aw (al (.p true) [])) .d) (.c (k==7) (.c (decide (sg.length<=cg) &&sg.all pF) (al (.p (Mh sg ca as_ own==0)) []) .d) (.c (k==8) (.c (r==0) (al (.p (ai==0)) []) (.c ak (al (.p (cf fW as_ [ah r])) []) .d)) aw)))))))):af aC).D:=ae
def wT(n:Int):aa:=.c .i64 n
def Mo(sg:List aa)(r k ty own:Int)(ca:List UInt8)(as_:List aa):Bool:=
 bif k==1 then(bif !((as_.length:Int)==0)then cf fW as_ [wT ty]else true)else bif k==2 then cf fW as_ [wT own]else
 bif k==3 then(bif own==3 then cf fW as_ [wT 1,wT 1]else false)else bif k==4 then(bif own==3 then cf fW as_ [wT 1]else false)else
 bif k==5 then own==1 else bif k==6 then(bif !cf fW as_ [wT 1]then cf fW as_ [wT 2]else true)else bif k==7 then Mh sg ca as_ own==0 else
 bif k==8 then(bif r==0 then(as_.length:Int)==0 else cf fW as_ [wT r])else cf fW as_ [wT 2]
def aBT(b:Bool):aC:=.a (.p b) []
def V0:aq
 | [.u [.d 48 sg,.d 72 _,.c .i64 r],.u [.c .i64 k,.c .i64 _,.h _,.c .i64 ty,.h ca,.d 177 _,.d 97 _,.d 97 _],.c .i64 own,.d 3 as_],[]=>.I (decide (as_.length<=bP) && (decide (sg.length<=bP) &&sg.all pF)) (.g (.a (.p (Mo sg r k ty own ca as_)) []))
 |_,_=>.d
def aBU:aH 97 V0:=bI (aA aBQ (aA aAy aQ)) aBF λp q u h=>by
 unfold V0 at h;split at h
 ·rename_i sg vs r k no nm ty ca ar bo el own as_;obtain⟨h1,h2⟩:=aO h;rw[au]at h1;obtain⟨ha,hs⟩:=h1;refine(aBS sg vs as_ r k no ty own nm ca ar bo el).trans (bS ?_ h2);show _=some (aBT (Mo sg r k ty own ca as_));refine bK (λ_=>bK (λ_=>aZ ha rfl) λ_=>rfl) λ_=>bK (λ_=>aZ ha rfl) λ_=>bK (λ_=>bK (λ_=>aZ ha rfl) λ_=>rfl) λ_=>bK (λ_=>bK (λ_=>aZ ha rfl) λ_=>rfl) λ_=>bK (λ_=>rfl) λ_=> ?_;exact bK (λ_=>aZ ha (bK (λ_=>aZ ha rfl) λ_=>rfl)) λ_=>bK (λ_=>aZ hs rfl) λ_=>bK (λ_=>bK (λ_=>rfl) λ_=>aZ ha rfl) λ_=>aZ ha rfl
 ·cases h
def aBV:FuncId->aq:=aL [(95,VU),(19,Mg),(96,VY),(97,V0)]
def aBW(sg vs r k no ty nm ca ar bo el):(aI (ay an aBV RK aK) false f54 [Mm sg vs r,dL k no nm ty ca ar bo el] []).D=((letI ai:=A7 vs nm k no;letI ak:=decide (sg.length<=cg) &&sg.all pF;letI aw:=kU (lT vs no) ar;letI aS:af aC:=.c (decide (ar.length<=1000) &&decide (vs.length<=cg)) (.c (aw.snd !=0) (.g (ia aw.snd)) (.c (decide (aw.fst.length<=cg) &&ak) (.c (!Mo sg r k ty ai.fst ca aw.fst) (.g (ia 12)) (.g (ia 0))) .d)) .d;af.c (decide (vs.length<=cg)) (.c (ai.snd !=0) (.g (ia ai.snd)) (.c ak (.c (k==7) (.c (!(qy sg ca).fst) (.g (ia 11)) aS) aS) .d)) .d):af aC).D:=ae
def agF(sg vs:List aa)(r k no ty:Int)(nm ca:List UInt8)(ar:List aa):Int:=bif (kU (lT vs no) ar).2 !=0 then(kU (lT vs no) ar).2 else bif !Mo sg r k ty (A7 vs nm k no).1 ca (kU (lT vs no) ar).1 then 12 else 0
def Hd(sg vs:List aa)(r k no ty:Int)(nm ca:List UInt8)(ar:List aa):Int:=bif (A7 vs nm k no).2 !=0 then(A7 vs nm k no).2 else bif k==7 then(bif !(qy sg ca).1 then 11 else agF sg vs r k no ty nm ca ar)else agF sg vs r k no ty nm ca ar
def V1:aq
 | [.u [.d 48 sg,.d 72 vs,.c .i64 r],.u [.c .i64 k,.c .i64 no,.h nm,.c .i64 ty,.h ca,.d 177 ar,.d 97 _,.d 97 _]],[]=>.I (decide (ar.length<=1000) &&decide (vs.length<=bP) && (decide (sg.length<=bP) &&sg.all pF)) (.g (.a (.c .i64 (Hd sg vs r k no ty nm ca ar)) []))
 |_,_=>.d
def aBX:aH 54 V1:=bI (aA aBJ (aA agq (aA aBO (aA aBU aQ)))) aBH λp q u h=>by
 unfold V1 at h;split at h
 ·rename_i sg vs r k no nm ty ca ar bo el;obtain⟨h1,h2⟩:=aO h;rw[au,au]at h1;obtain⟨⟨ha,hv⟩,hs⟩:=h1;have o_:(decide (ar.length<=1000) &&decide (vs.length<=9223372036854775807))=true:=by rw[au];exact⟨ha,hv⟩
  have akK:((kU (lT vs no) ar).2 !=0)=false->(decide ((kU (lT vs no) ar).1.length<=9223372036854775807) && (decide (sg.length<=9223372036854775807) &&sg.all pF))=true:=λh3=>by have h4:=VR h3;have h5:ar.length<=1000:=ff ha;rw[au];exact⟨aD ab,hs⟩
  refine(aBW sg vs r k no ty nm ca ar bo el).trans (bS (aZ hv ?_) h2);show _=some (ia (Hd sg vs r k no ty nm ca ar));exact bK (λ_=>rfl) λ_=>aZ hs (bK (λ_=>bK (λ_=>rfl) λ_=>aZ o_ (bK (λ_=>rfl) λh3=>aZ (akK h3) (bK (λ_=>rfl) λ_=>rfl))) λ_=>aZ o_ (bK (λ_=>rfl) λh3=>aZ (akK h3) (bK (λ_=>rfl) λ_=>rfl)))
 ·cases h
def V2:=aR 178 Ax ae
def agG:=aR 140 Ay ae
def agH(x:List aa)(i:Int):List aa:=x.set i.toNat (.c .i64 (i64.wrap ((x.getD i.toNat .m).I+1)))
def tf(f:aa->List aa->List aa):List aa->List aa->List aa
 | [],x=>x
 |e::r,x=>tf f r (f (bB e) x)
def He(l:List aa)(nm:List UInt8)(x:List aa):List aa:=bif (bc (dz nm) l 0).isSome then(bif !(nm==[])then agH x (gm (bc (dz nm) l 0))else x)else x
def km(l:List aa):Nat->aa->List aa->List aa
 |0,_,x=>x
 |m+1,e,x=>tf (km l m) (e.D 4).U (He l (e.D 3).bJ x)
def Hf(m:Nat):aq
 | [.d 72 l,.u [.c .i64 k,.c .i64 op,.c .i64 num,.h nm,.d 177 ar],.y 3 0 0 n],[.b false 0 3 x]=>
  .I (!(cW m (b9 k op num nm ar)==0) &&decide (l.length<=bP) &&Nat.beq n l.length &&Nat.beq x.length l.length) (.g (.a (.q []) [.b false 0 3 (km l m (b9 k op num nm ar) x)]))
 |_,_=>.d
def Mp(m:Nat):FuncId->aq:=aL [(141,G_),(178,Hf m)]
def agI(m l es x n len i):(cB (ay an (Mp m) Ax aK) 1 5 (cq Ax 0) [.d 72 l,.y 3 0 0 n,.d 177 es,ah len,ah i] [.b false 0 3 x]).D=((letI ai:=bB (es.getD i.toNat .m);af.c (decide (i<len)) (.c (decide (0<=i) &&decide (i<(↑es.length:Int))) (.c (!cW m ai==0 &&decide (l.length<=cg) &&n.beq l.length &&x.length.beq l.length) (.g ((.b,[.d 72 l,.y 3 0 0 n,.d 177 es,ah len,ah (i64.wrap (i+1))],[.b false 0 3 (km l m ai x)]))) .d) .d) (.g ((.a 0,[],[.b false 0 3 x])))):af (aU×List aa×List aj)).D:=ae
def agJ(x)(i:Int):(agH x i).length=x.length:=qN ..
def aBY(l nm x):(He l nm x).length=x.length:=by unfold He;cases(bc (dz nm) l 0).isSome<;>cases !(nm==[])<;>first |rfl |exact agJ _ _
def agK{f:aa->List aa->List aa}(hf:∀e x,(f e x).length=x.length):∀(r x:List aa),(tf f r x).length=x.length
 | [],x=>rfl
 |e::r,x=>by unfold tf;rw[agK hf r,hf]
def Hg(l):∀(m:Nat)(e:aa)(x:List aa),(km l m e x).length=x.length
 |0,e,x=>rfl
 |m+1,e,x=>by unfold km;rw[agK (Hg l m),aBY]
def agL(m:Nat)(l es)(rU:es.all (λv=> !(cW m (bB v)==0))=true)(hl:l.length<=bP)(hb:es.length<=8):∀(k i:Nat)(x:List aa),i+k=es.length->x.length=l.length->
  bw an (Mp m) Ax 1 5 [.d 72 l,.y 3 0 0 l.length,.d 177 es,.c .i64 (es.length:Int),.c .i64 i] [.b false 0 3 x] (.a 0,[],[.b false 0 3 (tf (km l m) (es.drop i) x)])
 |0,i,x,h,hx=>by refine eB.V V2 0 ae ae cv (agI m l es x l.length (es.length:Int) i) (.sJ (by rw[show i=es.length from ab];exact mP es) ?_);rw[tz ab];exact .I rfl rfl
 |k+1,i,x,h,hx=>by
  have hi:i<es.length:=ab;have hd:es.drop i=es[i]::es.drop (i+1):=oY hi;have hg:es.getD i .m=es[i]:=by rw[dD,cV hi];rfl
  have bg:=agI m l es x l.length (es.length:Int) i;rw[mn hi (by have:bP=9223372036854775807:=rfl;omega),dE,hg]at bg;have h1:=ug rU hi;rw[hg]at h1;refine eB.V V2 0 ae ae cv bg (.D (mm hi) (.D (jk hi) (.D ?_ (.mR ?_))))
  ·rw[au,au,au];exact⟨⟨⟨h1,aD hl⟩,gq _⟩,by rw[hx];exact gq _⟩
  ·rw[hd,tf];exact agL m l es rU hl hb k (i+1) (km l m (bB es[i]) x) ab (by rw[Hg];exact hx)
def V3(M:Nat):dk:=λm_ key vs os=>match vs,os with
 | [.d 72 l,.y 3 0 0 n,.d 177 es,.c .i64 len,.c .i64 0],[.b false 0 3 x]=>
  .I (es.all (λv=> !(cW M (bB v)==0)) &&decide (es.length<=8) &&decide (l.length<=bP) &&Nat.beq n l.length &&Nat.beq x.length l.length &&decide (len=(es.length:Int)) &&Nat.beq m_ 1 &&Nat.beq key 5)
   (.g (.a 0,[],[.b false 0 3 (tf (km l M) es x)]))
 |_,_=>.d
def aBZ(M:Nat):cJ an (Mp M) Ax (V3 M):=by
 intro m_ key vs os r h;unfold V3 at h;split at h
 ·rename_i l n es len x;obtain⟨h1,h2⟩:=aO h;simp only[au,bC]at h1;obtain⟨⟨⟨⟨⟨⟨⟨rU,h8⟩,hl⟩,hn⟩,hx⟩,rfl⟩,hm⟩,hk⟩:=h1;obtain rfl:=aV hm;obtain rfl:=aV hk;obtain rfl:=aV hn;have h9:=agL M l es rU hl h8 es.length 0 x ab (aV hx);rw[oc]at h9;cases h2;exact h9
 ·simp[af.D]at h
def aB0(M l x n k op num nm ar):(aI (ay an (Mp M) Ax (V3 M)) false f178 [.d 72 l,b9 k op num nm ar,.y 3 0 0 n] [.b false 0 3 x]).D=((letI ai:=bc (dz nm) l 0;letI ak:=Nat.beq 3 3 &&true &&decide (0<=gm ai) &&decide (gm ai<(↑n:Int));letI aw:=x.set (gm ai).toNat (ah (i64.wrap ((x.getD (gm ai).toNat .m).I+1)));letI aS:=(↑ar.length:Int);af.c (decide (l.length<=cg)) (.c (ai.isSome) (.c (!nm==[]) (.c ak (.c ak (.c ((ar.all λv=> !cW M (bB v)==0) &&decide (ar.length<=8) &&decide (l.length<=cg) &&n.beq l.length &&aw.length.beq l.length &&decide (aS=aS) &&Nat.beq 1 1 &&Nat.beq 5 5) (al (.q []) [.b false 0 3 (tf (km l M) ar aw)]) .d) .d) .d) (.c ((ar.all λv=> !cW M (bB v)==0) &&decide (ar.length<=8) &&decide (l.length<=cg) &&n.beq l.length &&x.length.beq l.length &&decide (aS=aS) &&Nat.beq 1 1 &&Nat.beq 5 5) (al (.q []) [.b false 0 3 (tf (km l M) ar x)]) .d)) (.c ((ar.all λv=> !cW M (bB v)==0) &&decide (ar.length<=8) &&decide (l.length<=cg) &&n.beq l.length &&x.length.beq l.length &&decide (aS=aS) &&Nat.beq 1 1 &&Nat.beq 5 5) (al (.q []) [.b false 0 3 (tf (km l M) ar x)]) .d)) .d):af aC).D:=ae
def V4{i:Int}(h0:0<=i)(h1:i<(n:Int)):(Nat.beq (3:TypeId) (3:TypeId) &&true &&decide ((0:Int)<=i) &&decide (i<(n:Int)))=true:=by rw[aD h0,aD h1];rfl
def agM:∀M:Nat,aH 178 (Hf M)
 |0=>λargs ao out h=>by
  unfold Hf at h;split at h
  ·obtain⟨h1,_⟩:=aO h;cases h1
  ·simp[af.D]at h
 |m+1=>dN aW c_ (aA Vy (aA (agM m) aQ)) V2 rfl (aBZ m) λp q r h=>by
  unfold Hf at h;split at h
  ·rename_i l k op num nm ar n x;obtain⟨h1,h2⟩:=aO h;rw[au,au,au]at h1;obtain⟨⟨⟨hd,hl⟩,hn⟩,hx⟩:=h1;obtain rfl:=aV hn;have hx':=aV hx;obtain⟨ha,h8,_⟩:=agB hd;have tt:∀y:List aa,y.length=x.length->((ar.all λv=> !(cW m (bB v)==0)) &&decide (ar.length<=8) &&decide (l.length<=9223372036854775807) &&Nat.beq l.length l.length &&Nat.beq y.length l.length &&decide ((ar.length:Int)=(ar.length:Int)) &&Nat.beq 1 1 &&Nat.beq 5 5)=true:=λy hy=>by have e1:decide (l.length<=9223372036854775807)=true:=hl;rw[ha,aD (show ar.length<=8 from ab),e1,gq,hy,hx',gq,aD rfl];rfl
   refine(aB0 m l x l.length k op num nm ar).trans (bS (aZ hl ?_) h2);show _=some (aC.a (.q []) [.b false 0 3 (tf (km l m) ar (He l nm x))]);unfold He;cases hf:bc (dz nm) l 0 with
   |none=>exact kK rfl (aZ (tt x rfl) rfl)
   |some i=>
    have hi:=(CT l 0 i hf).2;refine aZ rfl ?_;cases hb:(!(nm==[]))with
    |false=>exact kK rfl (aZ (tt x rfl) rfl)
    |true=>have h3:gm (some i)=(i:Int):=rfl;have t2:=V4 (n:=l.length) (i:=gm (some i)) (by rw[h3];omega) (by rw[h3];omega);exact aZ rfl (aZ t2 (aZ t2 (aZ (tt _ (agJ x _)) rfl)))
  ·cases h
def rG(a:Nat×List aa)(v:aa):Unit⊕(Nat×List aa):=bif decide (v.I>0)then .inr (a.1+1,a.2++ [.c .i64 (a.1:Int)])else .inr (a.1+1,a.2)
def tg(x:List aa):List aa:=match cR rG x (0,[])with | .inl _=> [] | .inr a=>a.2
def Hh:∀(x:List aa)(a:Nat×List aa),∃b,cR rG x a=.inr b
 | [],a=>⟨a,rfl⟩
 |v::r,a=>by
  rw[cR];unfold rG;cases decide (v.I>0)with
  |true=>exact Hh r _
  |false=>exact Hh r _
def Hi:FuncId->aq:=aL [(174,Gq),(178,Hf 20)]
def agN(es x n q len i):(cB (ay an Hi Ay aK) 0 7 (cq Ay 0) [.y 3 0 0 q,.y 3 1 0 n,ah len,ah i] [.b false 0 3 es,.b false 0 3 x]).D=((letI ai:=es++ [aa.c .i64 i];letI ak:=i64.wrap (i+1);af.c (decide (i<len)) (.c (Nat.beq 3 3 &&true &&decide (0<=i) &&decide (i<(↑n:Int))) (.c (decide ((x.getD i.toNat .m).I>0)) (.c (decide (es.length+1<=4294967296)) (.g ((.b,[.y 3 0 0 ai.length,.y 3 1 0 n,ah len,ah ak],[.b false 0 3 ai,.b false 0 3 x]))) .d) (.g ((.b,[.y 3 0 0 q,.y 3 1 0 n,ah len,ah ak],[.b false 0 3 es,.b false 0 3 x])))) .d) (.g ((.a 0,[.y 3 0 0 q],[.b false 0 3 es])))):af (aU×List aa×List aj)).D:=ae
def aB1(x)(hb:x.length<=1000000):bw an Hi Ay 0 7 [.y 3 0 0 0,.y 3 1 0 x.length,.c .i64 (x.length:Int),.c .i64 0] [.b false 0 3 [],.b false 0 3 x] (.a 0,[.y 3 0 0 (tg x).length],[.b false 0 3 (tg x)]):=by
 have key:=pz (α:=Nat×List aa) (β:=Unit) agG 0 (key:=7) (m:=0) ae ae (cv (C:=Hi)) (λn a=> [.y 3 0 0 a.2.length,.y 3 1 0 x.length,.c .i64 (x.length:Int),.c .i64 n]) (λ_ a=> [.b false 0 3 a.2,.b false 0 3 x]) rG (λ_=>(.c,[],[])) (λa=>(.a 0,[.y 3 0 0 a.2.length],[.b false 0 3 a.2])) (λn a=>a.1=n/\a.2.length<=n) x (0,[]) ⟨rfl,bj _⟩ ?_ ?_
 ·obtain⟨b,hg⟩:=Hh x (0,[]);rw[hg]at key;unfold tg;rw[hg];exact key
 ·rintro n ⟨c,es⟩ hn ⟨hc,he⟩;have hc:c=n:=hc;subst hc;have he:es.length<=c:=he;refine oF (agN es x x.length es.length (x.length:Int) c) (dB (mm hn) (dB (V4 ab ab) (jl (λ_=>dB (aD (show es.length+1<=4294967296 from ab)) (jI ?_ ⟨rfl,?_⟩)) λ_=>jI ?_ ⟨rfl,?_⟩)))
  ·rw[mn hn (by have:bP=9223372036854775807:=rfl;omega)]
  ·show(es++ [_]).length<=c+1;simp;omega
  ·rw[mn hn (by have:bP=9223372036854775807:=rfl;omega)]
  ·show es.length<=c+1;omega
 ·rintro⟨c,es⟩ _;have e:=agN es x x.length es.length (x.length:Int) x.length;rw[mP]at e;exact⟨e,rfl⟩
def V5:dk:=λm_ key vs os=>match vs,os with
 | [.y 3 0 0 0,.y 3 1 0 n,.c .i64 len,.c .i64 0],[.b false 0 3 [],.b false 0 3 x]=>
  .I (decide (x.length<=1000000) &&Nat.beq n x.length &&decide (len=(x.length:Int)) &&Nat.beq m_ 0 &&Nat.beq key 7) (.g (.a 0,[.y 3 0 0 (tg x).length],[.b false 0 3 (tg x)]))
 |_,_=>.d
def aB2:cJ an Hi Ay V5:=by
 intro m_ key vs os r h;unfold V5 at h;split at h
 ·rename_i n len x;obtain⟨h1,h2⟩:=aO h;simp only[au,bC]at h1;obtain⟨⟨⟨⟨hb,hn⟩,rfl⟩,hm⟩,hk⟩:=h1;obtain rfl:=aV hm;obtain rfl:=aV hk;obtain rfl:=aV hn;have h9:=aB1 x hb;cases h2;exact h9
 ·simp[af.D]at h
def aB3(l k op num nm ar):(aI (ay an Hi Ay V5) false f140 [.d 72 l,b9 k op num nm ar] []).D=((letI ai:=b9 k op num nm ar;letI ak:=(↑l.length:Int);letI aw:=List.replicate ak.toNat (ah 0);letI aS:=km l 20 ai aw;af.c (eY (lM ai) !=0) (al (.d 3 []) []) (.c (true &&decide (0<=ak) &&decide (ak=ak) &&decide (ak<=(↑(nat_lit 4294967296):Int))) (.c (!cW 20 ai==0 &&decide (l.length<=cg) &&aw.length.beq l.length &&aw.length.beq l.length) (.c (decide (aS.length<=1000000) &&aw.length.beq aS.length &&decide ((↑aw.length:Int)=(↑aS.length:Int)) &&Nat.beq 0 0 &&Nat.beq 7 7) (al (.d 3 (tg aS)) []) .d) .d) .d)):af aC).D:=ae
def pG(l:List aa)(e:aa):List aa:=bif eY (lM e) !=0 then[]else tg (km l 20 e (List.replicate (l.length:Int).toNat (.c .i64 0)))
def V6(x:List aa):aC:=.a (.d 3 x) []
def V7:aq| [.d 72 l,.u [.c .i64 k,.c .i64 op,.c .i64 num,.h nm,.d 177 ar]],[]=>.I (decide (l.length<=1000000)) (.g (.a (.d 3 (pG l (b9 k op num nm ar))) [])) |_,_=>.d
def aB4:aH 140 V7:=dN aW c_ (aA S5 (aA (agM 20) aQ)) agG rfl aB2 λp q r h=>by
 unfold V7 at h;split at h
 ·rename_i l k op num nm ar;obtain⟨h1,h2⟩:=aO h;have hl:l.length<=1000000:=ff h1;refine(aB3 l k op num nm ar).trans (bS ?_ h2);show _=some (V6 (pG l (b9 k op num nm ar)));refine bK (λ_=>rfl) λh3=> ?_;have h4:lM (b9 k op num nm ar)=true:=by rw[GB]at h3;exact mQ h3
  have h5:cW 20 (b9 k op num nm ar)>0:=ff h4;have h6:(!(cW 20 (b9 k op num nm ar)==0))=true:=by have:¬cW 20 (b9 k op num nm ar)=0:=ab;simpa using this
  have hr:(List.replicate (l.length:Int).toNat (aa.c .i64 0)).length=l.length:=by rw[vg,dE]
  have hu:(km l 20 (b9 k op num nm ar) (List.replicate (l.length:Int).toNat (aa.c .i64 0))).length=l.length:=by rw[Hg,hr]
  refine aZ ?_ (aZ ?_ (aZ ?_ rfl))
  ·rw[aD (show(0:Int)<=(l.length:Int)from ab),aD rfl,aD (show(l.length:Int)<=((nat_lit 4294967296:Nat):Int)from(show(l.length:Int)<=4294967296 from ab))];rfl
  ·rw[h6,hr,gq,aD (show l.length<=9223372036854775807 from ab)];rfl
  ·rw[hu,hr,gq,aD hl,aD rfl];rfl
 ·cases h
def ij(p:Prop):Bool:=@decide p (Classical.propDecidable p)
def rH{p:Prop}(h:p):ij p=true:=@decide_eq_true p (Classical.propDecidable p) h
def rI{p:Prop}(h:ij p=true):p:=@of_decide_eq_true p (Classical.propDecidable p) h
abbrev dq:=aa×List aa×Nat
variable{c:List dq}
def qC(par:aa)(f:dq):aa:=.A [par,.c .i64 (dp f.1),.c .i64 (bZ f.1),.h (eI f.1),.c .i64 (iD f.1),.h (jJ f.1),.d 177 (dG f.1),.d 97 (aP f.1),.d 97 (bf f.1),.d 97 f.2.1,.c .i64 f.2.2]
def ez:List dq->aa
 | []=>.B
 |f::r=>qC (ez r) f
def jq(f:List dq->List aa->List (List dq))(c:List dq)(blk:List aa):Nat->List aa->List (List dq)
 |_,[]=> []
 |i,s::r=>((s,blk,i)::c)::(f ((s,blk,i)::c) (aP s)++(f ((s,blk,i)::c) (bf s)++jq f c blk (i+1) r))
def ba:Nat->List dq->List aa->List (List dq)
 |0,_,_=> []
 |m+1,c,blk=>jq (ba m) c blk 0 blk
def y6:Nat->List aa->Prop
 |0,_=>True
 |m+1,l=>∀s∈l,dV s=s/\y6 m (aP s)/\y6 m (bf s)
def agO:∀m,y6 m []
 |0=>trivial
 |m+1=>λs h=>by cases h
def V8{w O}:∀(m:Nat)(l:List aa)(b o:Nat),bN aJ w O l 97 b o->y6 m l
 |0,_,_,_,_=>trivial
 |m+1,[],_,_,_=>λs h=>by cases h
 |m+1,s::r,b,o,h=>by
  obtain⟨⟨_,he⟩,⟨cs,_,_,hr⟩,h3⟩:=h;have hs:dV s=s:=he;have kid:∀(l:List aa)(x:Value),ax aJ w O (.d 97 l) bh x->y6 m l:=λl x hx=>by
   obtain⟨_,_,_,_,hx⟩:=hx;rcases hx with rfl | ⟨b',o',_,_,_,hx⟩
   ·exact agO m
   ·exact V8 m l b' o' hx
  rw[<-hs]at hr;obtain⟨_,_,_,_,_,_,_,_,_,_,_,_,_,_,_,_,_,_,_,_,_,_,_,_,_,_,x6,_,_,h6,x7,_,_,h7,_⟩:=hr;intro u hu;rcases List.mem_cons.1 hu with rfl |hu
  ·exact⟨hs,kid _ _ h6,kid _ _ h7⟩
  ·exact V8 (m+1) r _ _ h3 u hu
def aB5{R x}(m:Nat)(h:ax aJ w O (.d 97 l) R x):y6 m l:=by
 obtain⟨_,_,_,_,hx⟩:=h;rcases hx with rfl | ⟨b',o',_,_,_,hx⟩
 ·exact agO m
 ·exact V8 m l b' o' hx
def aB6{s}(h:dV s=s)(c:List dq)(blk)(i:Nat):aa.A (ez c::(s.V++ [.d 97 blk,.c .i64 i]))=ez ((s,blk,i)::c):=by
 have h1:s.V=(dV s).V:=by rw[h]
 rw[h1];rfl
def uR(h:cK (m+1) l=true):∀s∈l,cK m (aP s)=true/\cK m (bf s)=true:=by unfold cK at h;rw[au,dS]at h;intro s hs;have:=h.2 s hs;rwa[au]at this
def V9:∀(N m:Nat)(c:List dq)(blk:List aa)(i:Nat)(r:List aa),y6 (m+1) r->(∀s∈r,cK m (aP s)=true/\cK m (bf s)=true)->(jq (ba m) c blk i r).length<N->jm N (ez c) blk i r=some ((jq (ba m) c blk i r).map ez)
 |0,_,_,_,_,_,_,_,h=>absurd h (BD _)
 |n+1,m,c,blk,i,[],_,_,_=>rfl
 |n+1,m,c,blk,i,s::r,hf,hn,hl=>by
  obtain⟨hs,hb,he⟩:=hf s aB;obtain⟨nb',ne⟩:=hn s aB;have kid:∀(l:List aa),y6 m l->cK m l=true->(ba m ((s,blk,i)::c) l).length<n->jm n (ez ((s,blk,i)::c)) l 0 l=some ((ba m ((s,blk,i)::c) l).map ez):=λl hf hn hl=>by
   cases m with
   |zero=>
    rw[cK,tD]at hn;subst hn;cases n with
    |zero=>exact absurd hl (BD _)
    |succ n=>rfl
   |succ m=>exact V9 n m _ l 0 l hf (uR hn) hl
  have ht:(jq (ba m) c blk i (s::r)).length=1+((ba m ((s,blk,i)::c) (aP s)).length+((ba m ((s,blk,i)::c) (bf s)).length+(jq (ba m) c blk (i+1) r).length)):=by rw[jq,eM,eG,eG];omega
  unfold jm;rw[aB6 hs];rw[show(s.D 6).U=aP s from rfl,show(s.D 7).U=bf s from rfl];rw[kid _ hb nb' ab,kid _ he ne ab,V9 n m c blk (i+1) r (λu hu=>hf u (by simp[hu])) (λu hu=>hn u (by simp[hu])) ab];simp[jq]
def agP{m:Nat}(ih:∀(l:List aa)(c:List dq)(n:Int),0<=n->n<=200->(bn m l n).1=true->cK m l=true->(bn m l n).2=n+(ba m c l).length):∀(l:List aa)(c:List dq)(blk:List aa)(i:Nat)(n:Int),0<=n->n<=200->(eZ (bn m) l n).1=true->(∀s∈l,cK m (aP s)=true/\cK m (bf s)=true)->(eZ (bn m) l n).2=n+(jq (ba m) c blk i l).length
 | [],c,blk,i,n,h0,h1,h2,h3=>by show n=n+((0:Nat):Int);omega
 |s::r,c,blk,i,n,h0,h1,h2,h3=>by
  have pY:eZ (bn m) (s::r) n=if n+1>200\/lj s=false then(false,n+1)else
   if(bn m (aP s) (n+1)).1=false then(false,(bn m (aP s) (n+1)).2)else
   if(bn m (bf s) (bn m (aP s) (n+1)).2).1=false then(false,(bn m (bf s) (bn m (aP s) (n+1)).2).2)else eZ (bn m) r (bn m (bf s) (bn m (aP s) (n+1)).2).2:=rfl
  rw[pY]at h2⊢;obtain⟨k1,k2⟩:=h3 s aB;by_cases c1:n+1>200\/lj s=false
  ·rw[if_pos c1]at h2;cases h2
  rw[if_neg c1]at h2⊢;by_cases c2:(bn m (aP s) (n+1)).1=false
  ·rw[if_pos c2]at h2;cases h2
  rw[if_neg c2]at h2⊢;by_cases c3:(bn m (bf s) (bn m (aP s) (n+1)).2).1=false
  ·rw[if_pos c3]at h2;cases h2
  rw[if_neg c3]at h2⊢;have t2:(bn m (aP s) (n+1)).1=true:=by simpa using c2
  have t3:(bn m (bf s) (bn m (aP s) (n+1)).2).1=true:=by simpa using c3
  have o6:n+1<=200:=by have:¬n+1>200:=λh=>c1 (.inl h);omega
  have g1:=kM m (aP s) (n+1) ab o6;have g1':=g1.2.2 t2;have g2:=kM m (bf s) (bn m (aP s) (n+1)).2 ab g1'.1;have g2':=g2.2.2 t3;have e1:=ih (aP s) ((s,blk,i)::c) (n+1) ab o6 t2 k1;have e2:=ih (bf s) ((s,blk,i)::c) _ ab g1'.1 t3 k2;have e3:=agP ih r c blk (i+1) _ ab g2'.1 h2 (λu hu=>h3 u (by simp[hu]));rw[e3,jq,eM,eG,eG];omega
def V_:∀(m:Nat)(l:List aa)(c:List dq)(n:Int),0<=n->n<=200->(bn m l n).1=true->cK m l=true->(bn m l n).2=n+(ba m c l).length
 |0,l,c,n,h0,h1,h2,h3=>by rw[cK,tD]at h3;subst h3;show n=n+((0:Nat):Int);omega
 |m+1,l,c,n,h0,h1,h2,h3=>agP (V_ m) l c l 0 n h0 h1 h2 (uR h3)
def qD:List dq->Int
 | []=> -1
 |f::_=>bZ f.1
def uS:Int->List (List dq)->Prop
 |_,[]=>True
 |n,c::r=>qD c=n/\uS (n+1) r
def V':∀(a b:List (List dq))(n:Int),uS n a->uS (n+a.length) b->uS n (a++b)
 | [],b,n,_,h=>by simpa using h
 |c::a,b,n,h1,h2=>by refine⟨h1.1,V' a b (n+1) h1.2 ?_⟩;rw[show n+1+(a.length:Int)=n+((c::a).length:Int)by simp;omega];exact h2
def Hj:∀(m:Nat)(l:List aa)(n:Int),(db m l (false,n)).1=false
 |0,l,n=>rfl
 |m+1,l,n=>by
  have:∀(l:List aa)(n:Int),(mr (db m) l (false,n)).1=false:=by
   intro l;induction l with
   |nil=>intro n;rfl
   |cons s r ih=>
    intro n;have h1:∃k,db m (bf s) (db m (aP s) (false && (bZ s==n),i64.wrap (n+1)))=(false,k):=by
     have a1:=Hj m (aP s) (i64.wrap (n+1));obtain⟨k1,e1⟩:∃k,db m (aP s) (false,i64.wrap (n+1))=(false,k):=⟨_,EF a1 rfl⟩
     rw[Ng,e1];exact⟨_,EF (Hj m (bf s) k1) rfl⟩
    obtain⟨k,e⟩:=h1;show(mr (db m) r (db m (bf s) (db m (aP s) (false && (bZ s==n),i64.wrap (n+1))))).1=false;rw[e];exact ih k
  exact this l n
def agQ{m:Nat}(ih:∀(l:List aa)(c:List dq)(n:Int),0<=n->n+(ba m c l).length<=1000000->(db m l (true,n)).1=true->cK m l=true->uS n (ba m c l)/\(db m l (true,n)).2=n+(ba m c l).length):
  ∀(l:List aa)(c:List dq)(blk:List aa)(i:Nat)(n:Int),0<=n->n+(jq (ba m) c blk i l).length<=1000000->(mr (db m) l (true,n)).1=true->(∀s∈l,cK m (aP s)=true/\cK m (bf s)=true)->uS n (jq (ba m) c blk i l)/\(mr (db m) l (true,n)).2=n+(jq (ba m) c blk i l).length
 | [],c,blk,i,n,h0,h1,h2,h3=>by refine⟨trivial,?_⟩;show n=n+((0:Nat):Int);omega
 |s::r,c,blk,i,n,h0,h1,h2,h3=>by
  obtain⟨k1,k2⟩:=h3 s aB;have hl:((jq (ba m) c blk i (s::r)).length:Int)=1+((ba m ((s,blk,i)::c) (aP s)).length+((ba m ((s,blk,i)::c) (bf s)).length+(jq (ba m) c blk (i+1) r).length):Int):=by rw[jq,eM,eG,eG];omega
  have hw:i64.wrap (n+1)=n+1:=ep ab ab;have hd:mr (db m) (s::r) (true,n)=mr (db m) r (db m (bf s) (db m (aP s) (true && (bZ s==n),i64.wrap (n+1)))):=rfl;rw[hd,hw,qJ]at h2⊢;have fl:∀(b:Bool)(k:Int)(l:List aa),(mr (db m) l (db m (bf s) (b,k))).1=true->(db m (bf s) (b,k)).1=true:=λb k l h=>by
   cases hb:(db m (bf s) (b,k)).1 with
   |true=>rfl
   |false=>have e:db m (bf s) (b,k)=(false,(db m (bf s) (b,k)).2):=EF hb rfl;rw[e]at h;rw[show mr (db m) l (false,(db m (bf s) (b,k)).2)=db (m+1) l (false,(db m (bf s) (b,k)).2)from rfl,Hj]at h;cases h
  have b3:=fl _ _ r h2;have b2:(db m (aP s) (bZ s==n,n+1)).1=true:=by
   cases hb:(db m (aP s) (bZ s==n,n+1)).1 with
   |true=>rfl
   |false=>have e:db m (aP s) (bZ s==n,n+1)=(false,(db m (aP s) (bZ s==n,n+1)).2):=EF hb rfl;have b3':(db m (bf s) (db m (aP s) (bZ s==n,n+1))).1=true:=b3;rw[e,Hj]at b3';cases b3'
  have b1:(bZ s==n)=true:=by
   cases hb:bZ s==n with
   |true=>rfl
   |false=>rw[hb,Hj]at b2;cases b2
  rw[b1]at b2 b3 h2⊢;obtain⟨q1,e1⟩:=ih (aP s) ((s,blk,i)::c) (n+1) ab ab b2 k1;have p1:db m (aP s) (true,n+1)=(true,n+1+(ba m ((s,blk,i)::c) (aP s)).length):=EF b2 e1;rw[p1]at b3 h2⊢;obtain⟨q2,e2⟩:=ih (bf s) ((s,blk,i)::c) (n+1+(ba m ((s,blk,i)::c) (aP s)).length) ab ab b3 k2;have p2:db m (bf s) (true,n+1+(ba m ((s,blk,i)::c) (aP s)).length)=(true,n+1+(ba m ((s,blk,i)::c) (aP s)).length+(ba m ((s,blk,i)::c) (bf s)).length):=EF b3 e2;rw[p2]at h2⊢;obtain⟨q3,e3⟩:=agQ ih r c blk (i+1) _ ab ab h2 (λu hu=>h3 u (by simp[hu]));refine⟨⟨eq_of_beq b1,?_⟩,?_⟩
  ·exact V' _ _ _ q1 (V' _ _ _ q2 q3)
  ·rw[e3,hl];omega
def agR:∀(m:Nat)(l:List aa)(c:List dq)(n:Int),0<=n->n+(ba m c l).length<=1000000->(db m l (true,n)).1=true->cK m l=true->uS n (ba m c l)/\(db m l (true,n)).2=n+(ba m c l).length
 |0,l,c,n,h0,h1,h2,h3=>by refine⟨trivial,?_⟩;show n=n+((0:Nat):Int);omega
 |m+1,l,c,n,h0,h1,h2,h3=>agQ (agR m) l c l 0 n h0 h1 h2 (uR h3)
def n9(h:kN (aG nm ps rs bo ct)=true):cK 20 bo=true/\(ba 20 [] bo).length<=200/\uS 0 (ba 20 [] bo)/\ct=((ba 20 [] bo).length:Int)/\ps.length<=8:=by
 unfold kN at h;rw[au,au]at h;obtain⟨⟨h1,h2⟩,h3⟩:=h;have h1:fm nm ps rs bo=true:=h1;have h2:(db 20 bo (true,0)).1=true:=h2;have h3:(!(ct !=(db 20 bo (true,0)).2))=true:=h3;have hn:=Tp h1;have hs:(bn 20 bo 0).1=true:=by unfold fm at h1;rw[au]at h1;exact h1.2
 have e1:=V_ 20 bo [] 0 ab ab hs hn;have e2:=((kM 20 bo 0 ab ab).2.2 hs).1;obtain⟨q1,q2⟩:=agR 20 bo [] 0 ab ab h2 hn;refine⟨hn,ab,q1,?_,(Dt h1).2⟩;rw[q2]at h3;have:ct=0+((ba 20 [] bo).length:Int):=by simpa using h3
 omega
def aB7:=aR 93 RL ae
def agS:=aR 169 Dc ae
def aB8:=aR 124 RM ae
def aB9:=aR 170 Ka ae
def aB_:=aR 125 RN ae
def aB':=aR 136 RO ae
def Wa:=aR 248 we ae
def aCa:=aR 217 RP ae
def aCb:=aR 216 Kb ae
def y7:aq| [.u [.h nm,.d 101 ps,.c .i64 rs,.d 97 bo,.c .i64 ct]],[]=>.g (.a (.p (bF [aG nm ps rs bo ct])) []) |_,_=>.d
def aCc(nm ps rs bo ct):(aI (ay an (aL [(27,wz)]) RL aK) false f93 [aG nm ps rs bo ct] []).D=((af.g (.a (.p (eY (bF [aG nm ps rs bo ct])==0)) []))).D:=ae
def agT(b:Bool):(eY b==0)=b:=by cases b<;>rfl
def agU:aH 93 y7:=bI (aA yJ aQ) aB7 λp q r h=>by
 unfold y7 at h;split at h
 ·rename_i nm ps rs bo ct;refine(aCc nm ps rs bo ct).trans (bS ?_ h);show some (aC.a (.p (eY (bF [aG nm ps rs bo ct])==0)) [])=_;rw[agT];rfl
 ·cases h
def mv(h:bF [f]=true):kN f=true:=by unfold bF at h;rw[au,ja,au]at h;exact h.2.1
def aCd(h:kN f=true):bF [f]=true:=by unfold bF;rw[ja,h];rfl
def gQ(c:List dq):aa:=match c with |f::_=>.q [.c .i64 (bZ f.1),dV f.1] | []=>.m
def Wb:FuncId->List aa->af (List aa):=λf eN=>match Nat.beq f 126 with
 |true=>(match eN with
  | [.A [.h nm,.d t1 ps,.c .i64 rs,.d t2 bo,.c .i64 ct]]=>.I (Nat.beq t1 101 &&Nat.beq t2 97 &&bF [aG nm ps rs bo ct]) (.g ((ba 20 [] bo).map λc=>.q [ez c]))
  |_=>.d)
 |false=>(match Nat.beq f 92 with
  |true=>(match eN with
   | [.A [.h nm,.d t1 ps,.c .i64 rs,.d t2 bo,.c .i64 ct]]=>.I (Nat.beq t1 101 &&Nat.beq t2 97 &&bF [aG nm ps rs bo ct]) (.g ((ba 20 [] bo).map gQ))
   |_=>.d)
  |false=>.d)
def aCe:(f92.name== "runtime.NumGoroutine")=false:=ae
def aCf:∀args w,(callFunc 92 args).run prog w=.ok (.enter 92 args) w:=F7 func92 aCe acK
def agV(nm ps rs bo ct):(sE an 300 5 94 [aG nm ps rs bo ct] []).D=some (.a (.z 126 [] [.A [.h nm,.d 101 ps,ah rs,.d 97 bo,ah ct]]) []):=ae
def pH:∀(m:Nat)(c:List dq)(blk:List aa),∀p∈ba m c blk,∃f r,p=f::r
 |0,_,_,p,h=>by cases h
 |m+1,c,blk,p,h=>by
  have:∀(l:List aa)(i:Nat),p∈jq (ba m) c blk i l->∃f r,p=f::r:=by
   intro l;induction l with
   |nil=>intro i h;cases h
   |cons s r ih=>
    intro i h;rw[jq]at h;rcases List.mem_cons.1 h with rfl |h
    ·exact⟨_,_,rfl⟩
    rcases List.mem_append.1 h with h |h
    ·exact pH m _ _ p h
    rcases List.mem_append.1 h with h |h
    ·exact pH m _ _ p h
    ·exact ih _ h
  exact this blk 0 h
def aCg(m:Nat)(c:List dq)(blk):((ba m c blk).map ez).map Ga=(ba m c blk).map gQ:=by rw[HK];refine XW λp hp=> ?_;obtain⟨f,r,rfl⟩:=pH m c blk p hp;rfl
def aCh:∀gf eN items,(Wb gf eN).D=some items->(∀args w,(callFunc gf args).run prog w=.ok (.enter gf args) w)/\
  ∀kn O w(lb:Array Value),(∀b,O b->b<w.heap.size)->(∀g,dU aJ w O (cO g) g)->aF aJ w O eN bh lb.toList->JE aJ kn prog gf lb items O w:=by
 intro gf eN items h;unfold Wb at h;have vis:∀{nm:List UInt8}{ps:List aa}{rs:Int}{bo:List aa}{ct:Int}{O:Nat->Prop}{w:World}{lb:Array Value},bF [aG nm ps rs bo ct]=true->aF aJ w O [.A [.h nm,.d 101 ps,.c .i64 rs,.d 97 bo,.c .i64 ct]] bh lb.toList->jm 300 .B bo 0 bo=some ((ba 20 [] bo).map ez):=λhp qW=>by obtain⟨x,r,_,⟨b,o,l,_,_,_,_,hr⟩,_⟩:=qW;obtain⟨_,_,_,_,_,_,_,_,_,_,_,_,x3,_,_,h3,_⟩:=hr;obtain⟨hn,hl,_⟩:=n9 (mv hp);exact V9 300 19 [] _ 0 _ (aB5 20 h3) (uR hn) (by show(ba 20 [] _).length<300;omega)
 split at h
 ·rename_i hf;obtain rfl:=aV hf;split at h
  ·rename_i nm t1 ps rs t2 bo ct;obtain⟨h1,h2⟩:=aO h;simp only[au]at h1;obtain⟨⟨Zh,Zi⟩,hp⟩:=h1;obtain rfl:=aV Zh;obtain rfl:=aV Zi;cases h2;refine⟨ac2,λkn O w lb hO hg qW=> ?_⟩;have:=acJ (vis hp qW) (kn:=kn) hO hg qW;rwa[HK]at this
  ·cases h
 ·split at h
  ·rename_i hf;obtain rfl:=aV hf;split at h
   ·rename_i nm t1 ps rs t2 bo ct;obtain⟨h1,h2⟩:=aO h;simp only[au]at h1;obtain⟨⟨Zh,Zi⟩,hp⟩:=h1;obtain rfl:=aV Zh;obtain rfl:=aV Zi;cases h2;refine⟨aCf,λkn O w lb hO hg qW=> ?_⟩;rw[<-aCg];refine ap4 (ID:=y7) (IE:=sE an 300 5 94) agU (AJ 5 94) rfl rfl ?_ (agV nm ps rs bo ct) (vis hp qW) (λp hp=> ?_) hO hg qW
    ·show some (aC.a (.p (bF [aG nm ps rs bo ct])) [])=_;rw[hp]
    ·rw[List.mem_map]at hp;obtain⟨c,hc,rfl⟩:=hp;obtain⟨f,r,rfl⟩:=pH 20 [] bo c hc;exact⟨_,rfl,by show 9<=11;omega⟩
   ·cases h
  ·cases h
def gD:eH:={Kk with e:=Wb}
def Hk:sF prog gD:=λC hC d fuel k=>by cases k<;>exact aCh
def rJ{f:FuncId}{d:AH.dQ}(ok:iB prog an f d):iB prog gD f d:=⟨ok.c,ok.b,ok.h,ok.e,ok.a⟩
def aCi:aH 94 (sE an 300 5 94):=AJ 5 94
def Wc:aq| [.u [.h nm,.d 101 ps,.c .i64 rs,.d 97 bo,.c .i64 ct]],[]=>.g (.a (.z 126 [] [.A [.h nm,.d 101 ps,.c .i64 rs,.d 97 bo,.c .i64 ct]]) []) |_,_=>.d
def aCj:aH 94 Wc:=λp q r h=>by
 unfold Wc at h;split at h
 ·exact aCi _ _ _ ((agV _ _ _ _ _).trans h)
 ·cases h
def DY:aq| [.u [.h nm,.d 101 ps,.c .i64 rs,.d 97 bo,.c .i64 ct]],[]=>.g (.a (.z 92 [] [.A [.h nm,.d 101 ps,.c .i64 rs,.d 97 bo,.c .i64 ct]]) []) |_,_=>.d
def aCk(nm ps rs bo ct):(sE an 300 5 53 [aG nm ps rs bo ct] []).D=some (.a (.z 92 [] [.A [.h nm,.d 101 ps,ah rs,.d 97 bo,ah ct]]) []):=ae
def Mq:aH 53 DY:=λp q r h=>by
 unfold DY at h;split at h
 ·exact AJ 5 53 _ _ _ ((aCk _ _ _ _ _).trans h)
 ·cases h
def Hl:FuncId->aq:=aL [(93,y7),(94,Wc)]
def wU(no:Int)(x:aa)(e:Int):List aj:=[.a false [.c .i64 no],.a false [x],.a false [.c .i64 e]]
def wV:List aa:=[.e 0 0,.e 1 0,.e 2 0]
def aCl(no par f):(vY gD Hl Dc aK 0 0 (.q [qC par f]) wV (wU no .B 0)).D=((af.c (bZ f.fst==no) (.g ((.c,[.e 0 0,.e 1 0,.e 2 0],[cu no,az [.A [par,ah (dp f.fst),ah (bZ f.fst),.h (eI f.fst),ah (iD f.fst),.h (jJ f.fst),.d 177 (dG f.fst),.d 97 (aP f.fst),.d 97 (bf f.fst),.d 97 f.snd.fst,ah (↑f.snd.snd:Int)]],cu 0]))) (.g ((.b,[.e 0 0,.e 1 0,.e 2 0],[cu no,az [.B],cu 0]))))).D:=ae
def dC(no:Int):List (List dq)->List dq
 | []=> []
 |c::r=>bif qD c==no then c else dC no r
def Wd(no:Int)(_:Unit)(c:List dq):List dq⊕Unit:=bif qD c==no then .inl c else .inr ()
def Hm(no:Int)(c:List dq):aU×List aa×List aj:=(.c,wV,wU no (ez c) 0)
def agW(no:Int):∀l:List (List dq),(∀c∈l,∃f r,c=f::r)->ml (Hm no) (λ(_:Unit)=>(aU.b,wV,wU no .B 0)) (kg (Wd no) l ())=bif (dC no l).isEmpty then(.b,wV,wU no .B 0)else Hm no (dC no l)
 | [],_=>rfl
 |c::r,h=>by
  obtain⟨f,q,rfl⟩:=h c aB;rw[kg,dC];unfold Wd;cases qD (f::q)==no with
  |true=>rfl
  |false=>exact agW no r (λc hc=>h c (by simp[hc]))
def aCm(no:Int)(l:List (List dq))(hl:∀c∈l,∃f r,c=f::r):bw gD Hl Dc 0 4 (.q (l.map λc=>.q [ez c])::wV) (wU no .B 0) (bif (dC no l).isEmpty then(.b,wV,wU no .B 0)else Hm no (dC no l)):=by rw[<-agW no l hl];refine C5 (rJ agS) 0 ae ae cv (λc=>.q [ez c]) (λ_=>wV) (λ_=>wU no .B 0) (Wd no) (Hm no) (λ_=>True) l (λ_ c hc _=> ?_) () trivial;obtain⟨f,r,rfl⟩:=hl c hc;exact C4 (aCl no (ez r) f) (jl (λ_=>ke rfl rfl) λ_=>jI rfl trivial)
def lp:dq:=(.m,[],0)
def Mr(h:c.isEmpty=false):ez c=qC (ez c.tail) (c.getD 0 lp):=by
 cases c with
 |nil=>cases h
 |cons f r=>rfl
def We(l:List (List dq)):dk:=λm_ key vs os=>match vs,os with
 | [.q items,.e 0 0,.e 1 0,.e 2 0],[.a false [.c .i64 no],.a false [.B],.a false [.c .i64 0]]=>
  .I (ij (items=l.map λc=>.q [ez c]) &&Nat.beq m_ 0 &&Nat.beq key 4) (.c (dC no l).isEmpty (.g (.b,wV,wU no .B 0)) (.g (.c,wV,wU no (qC (ez (dC no l).tail) ((dC no l).getD 0 lp)) 0)))
 |_,_=>.d
def aCn(l:List (List dq))(hl:∀c∈l,∃f r,c=f::r):cJ gD Hl Dc (We l):=by
 intro m_ key vs os r h;unfold We at h;split at h
 ·rename_i items no;obtain⟨h1,h2⟩:=aO h;simp only[au]at h1;obtain⟨⟨hi,hm⟩,hk⟩:=h1;obtain rfl:=aV hm;obtain rfl:=aV hk;obtain rfl:=rI hi;have h3:=aCm no l hl;cases he:(dC no l).isEmpty with
  |true=>rw[he]at h2 h3;cases h2;exact h3
  |false=>rw[he]at h2 h3;unfold Hm at h3;rw[Mr he]at h3;cases h2;exact h3
 ·simp[af.D]at h
def aCo(l nm ps rs bo ct no):(aI (ay gD Hl Dc (We l)) false f169 [aG nm ps rs bo ct,ah no] []).D=((letI ai:=(dC no l).getD 0 lp;af.c (!bF [aG nm ps rs bo ct]) (al (.q [.B,ah 2]) []) (.c (Nat.beq 101 101 &&Nat.beq 97 97 &&bF [aG nm ps rs bo ct]) (.c (ij (List.map (λc=>aa.q [ez c]) (ba 20 [] bo)=List.map (λc=>aa.q [ez c]) l) &&Nat.beq 0 0 &&Nat.beq 4 4) (.c ((dC no l).isEmpty) (al (.q [.B,ah 3]) []) (al (.q [.A [ez (dC no l).tail,ah (dp ai.fst),ah (bZ ai.fst),.h (eI ai.fst),ah (iD ai.fst),.h (jJ ai.fst),.d 177 (dG ai.fst),.d 97 (aP ai.fst),.d 97 (bf ai.fst),.d 97 ai.snd.fst,ah (↑ai.snd.snd:Int)],ah 0]) [])) .d) .d)):af aC).D:=ae
def agX(c:List dq):af aC:=.c c.isEmpty (.g (.a (.q [.B,.c .i64 3]) [])) (.c c.tail.isEmpty (.g (.a (.q [qC .B (c.getD 0 lp),.c .i64 0]) [])) (.g (.a (.q [qC (qC (ez (c.drop 2)) (c.getD 1 lp)) (c.getD 0 lp),.c .i64 0]) [])))
def Wf:aq| [.u [.h nm,.d 101 ps,.c .i64 rs,.d 97 bo,.c .i64 ct],.c .i64 no],[]=>.c (bF [aG nm ps rs bo ct]) (agX (dC no (ba 20 [] bo))) (.g (.a (.q [.B,.c .i64 2]) [])) |_,_=>.d
def Hn:aq| [.u [.h nm,.d 101 ps,.c .i64 rs,.d 97 bo,.c .i64 ct],.c .i64 no],[]=>.c (bF [aG nm ps rs bo ct]) (.c (dC no (ba 20 [] bo)).isEmpty (.g (.a (.q [.B,.c .i64 3]) [])) (.g (.a (.q [qC (ez (dC no (ba 20 [] bo)).tail) ((dC no (ba 20 [] bo)).getD 0 lp),.c .i64 0]) []))) (.g (.a (.q [.B,.c .i64 2]) [])) |_,_=>.d
def A8(no:Int):∀l:List (List dq),(dC no l).isEmpty=false->dC no l∈l
 | [],h=>by cases h
 |c::r,h=>by
  rw[dC]at h⊢;cases hc:qD c==no with
  |true=>simp
  |false=>rw[hc]at h;exact oX _ (A8 no r h)
def agY:aH 169 Wf:=Af (g:=gD) λp q u h=>by
 unfold Wf at h;split at h
 ·rename_i nm ps rs bo ct no;refine FP aW (C:=Hl) (aA agU (aA aCj aQ)) Hk (rJ agS) rfl (aCn (ba 20 [] bo) (pH 20 [] _)) ((aCo (ba 20 [] bo) nm ps rs bo ct no).trans (bS ?_ h));cases hp:bF [aG nm ps rs bo ct]with
  |false=>rfl
  |true=>
   refine kK rfl (aZ rfl (aZ (by rw[rH rfl];rfl) ?_));cases hc:dC no (ba 20 [] bo)with
   |nil=>rfl
   |cons f r=>cases r<;>rfl
 ·cases h
def Ms:aH 169 Hn:=λargs ao out h=>by
 refine agY args ao out ?_;unfold Hn at h;split at h
 ·rename_i nm ps rs bo ct no;rw[<-h];show(af.c (bF [aG nm ps rs bo ct]) (agX (dC no (ba 20 [] bo))) _).D=_;cases bF [aG nm ps rs bo ct]with
  |false=>rfl
  |true=>
   cases hc:dC no (ba 20 [] bo)with
   |nil=>rfl
   |cons f r=>cases r<;>rfl
 ·cases h
def aCp(nm ps rs bo ct no):(aI (ay an (aL [(169,Wf)]) RM aK) false f124 [aG nm ps rs bo ct,ah no] []).D=((letI ai:=dC no (ba 20 [] bo);af.c (bF [aG nm ps rs bo ct]) (.c (ai.isEmpty) (al (.q [ah 0,.p false,ah 3]) []) (.c (ai.tail.isEmpty) (al (.q [ah 0,.p false,ah 0]) []) (al (.q [ah (bZ (ai.getD 1 lp).fst),.p true,ah 0]) []))) (al (.q [ah 0,.p false,ah 2]) [])):af aC).D:=ae
def DZ(f:aa)(bo:List aa)(no:Int):Int×Bool×Int:=bif bF [f]then(bif (dC no (ba 20 [] bo)).isEmpty then(0,false,3)else bif (dC no (ba 20 [] bo)).tail.isEmpty then(0,false,0)else(bZ ((dC no (ba 20 [] bo)).getD 1 lp).1,true,0))else(0,false,2)
def Wg:aq| [.u [.h nm,.d 101 ps,.c .i64 rs,.d 97 bo,.c .i64 ct],.c .i64 no],[]=>.g (.a (.q [.c .i64 (DZ (aG nm ps rs bo ct) bo no).1,.p (DZ (aG nm ps rs bo ct) bo no).2.1,.c .i64 (DZ (aG nm ps rs bo ct) bo no).2.2]) []) |_,_=>.d
def aCq:aH 124 Wg:=bI (aA agY aQ) aB8 λp q r h=>by
 unfold Wg at h;split at h
 ·rename_i nm ps rs bo ct no;refine(aCp nm ps rs bo ct no).trans (bS ?_ h);unfold DZ;cases bF [aG nm ps rs bo ct]with
  |false=>rfl
  |true=>
   cases(dC no (ba 20 [] bo)).isEmpty with
   |true=>rfl
   |false=>cases(dC no (ba 20 [] bo)).tail.isEmpty<;>rfl
 ·cases h
def wW:Nat->List aa->Int
 |0,_=>0
 |m+1,l=>bif decide (((bf (l.getD ((l.length:Int)-1).toNat .m)).length:Int)>0)then wW m (bf (l.getD ((l.length:Int)-1).toNat .m))else bif decide (((aP (l.getD ((l.length:Int)-1).toNat .m)).length:Int)>0)then wW m (aP (l.getD ((l.length:Int)-1).toNat .m))else bZ (l.getD ((l.length:Int)-1).toNat .m)
def Ho(m:Nat):aq| [.d 97 l],[]=>.I (cK m l &&decide (0<(l.length:Int))) (.g (.a (.c .i64 (wW m l)) [])) |_,_=>.d
def agZ(m:Nat):FuncId->aq:=aL [(170,Ho m)]
def aCr(m l):(aI (ay an (agZ m) Ka (cG an (agZ m) Ka 4 4).d) false f170 [.d 97 l] []).D=((letI ai:=(↑l.length:Int)-1;letI ak:=l.getD (i64.wrap ai).toNat .m;letI aw:=(↑(ak.D 7).U.length:Int);letI aS:=(↑(ak.D 6).U.length:Int);af.c (decide (0<=i64.wrap ai) &&decide (i64.wrap ai<(↑l.length:Int))) (.c (decide (aw>0)) (.c (cK m (ak.D 7).U &&decide (0<aw)) (al (ah (wW m (ak.D 7).U)) []) .d) (.c (decide (aS>0)) (.c (cK m (ak.D 6).U &&decide (0<aS)) (al (ah (wW m (ak.D 6).U)) []) .d) (.g (ia (ak.D 1).I)))) .d):af aC).D:=ae
def ag0(h0:0<l.length)(h:l.length<=bP):i64.wrap ((l.length:Int)-1)=(l.length:Int)-1/\(decide ((0:Int)<=(l.length:Int)-1) &&decide ((l.length:Int)-1<(l.length:Int)))=true:=by have nq:bP=9223372036854775807:=rfl;refine⟨ep ab ab,?_⟩;rw[aD (show(0:Int)<=(l.length:Int)-1 from ab),aD (show(l.length:Int)-1<(l.length:Int)from ab)];rfl
def ag1:∀m:Nat,aH 170 (Ho m)
 |0=>λargs ao out h=>by
  unfold Ho at h;split at h
  ·rename_i l;obtain⟨h1,_⟩:=aO h;rw[au,cK,tD]at h1;obtain⟨rfl,h1⟩:=h1;cases h1
  ·simp[af.D]at h
 |m+1=>dN aW c_ (aA (ag1 m) aQ) aB9 rfl (sH 4) λp q r h=>by
  unfold Ho at h;split at h
  ·rename_i l;obtain⟨h1,h2⟩:=aO h;rw[au,bC]at h1;obtain⟨hn,h0⟩:=h1;have h0':0<l.length:=ab;obtain⟨e1,e2⟩:=ag0 h0' (Ll hn);have bg:=aCr m l;rw[e1]at bg;have hx:l.getD ((l.length:Int)-1).toNat .m∈l:=by rw[dD,cV (show((l.length:Int)-1).toNat<l.length from ab)];exact mE _
   obtain⟨n1,n2⟩:=uR hn _ hx;refine bg.trans (bS (aZ e2 ?_) h2);show _=some (ia (bif decide (((bf (l.getD ((l.length:Int)-1).toNat .m)).length:Int)>0)then wW m (bf (l.getD ((l.length:Int)-1).toNat .m))else bif decide (((aP (l.getD ((l.length:Int)-1).toNat .m)).length:Int)>0)then wW m (aP (l.getD ((l.length:Int)-1).toNat .m))else bZ (l.getD ((l.length:Int)-1).toNat .m)));refine bK (λh3=>aZ ?_ rfl) λ_=>bK (λh3=>aZ ?_ rfl) λ_=>rfl
   ·rw[au];exact⟨n2,h3⟩
   ·rw[au];exact⟨n1,h3⟩
  ·cases h
def rK(p:aa)(j:Nat):aa:=match p with | .A cs=>cs.getD j .m |_=>.m
def ag2:aa->Bool | .A _=>true |_=>false
def mw:Nat->aa->Int->Int
 |0,_,e=>e
 |n+1,p,e=>bif decide ((rK p 10).I+1<(((rK p 9).U.length:Nat):Int))then(((rK p 9).U.getD ((rK p 10).I+1).toNat .m).D 1).I else
  bif ag2 (rK p 0)then(bif (rK (rK p 0) 1).I==10 then(rK (rK p 0) 2).I else mw n (rK p 0) e)else e
def aCs(f e):(cB (ay an (aL []) we aK) 0 1 (cq we 0) [qC .B f,ah e] []).D=((letI ai:=(↑f.snd.snd:Int)+1;af.c (decide (i64.wrap ai<(↑f.snd.fst.length:Int))) (.c (decide (0<=i64.wrap ai) &&decide (i64.wrap ai<(↑f.snd.fst.length:Int))) (.g ((.c,[ah ((f.snd.fst.getD (i64.wrap ai).toNat .m).D 1).I],[]))) .d) (.g ((.c,[ah e],[])))):af (aU×List aa×List aj)).D:=ae
def aCt(p f g e):(cB (ay an (aL []) we aK) 0 1 (cq we 0) [qC (qC p g) f,ah e] []).D=((letI ai:=(↑f.snd.snd:Int)+1;af.c (decide (i64.wrap ai<(↑f.snd.fst.length:Int))) (.c (decide (0<=i64.wrap ai) &&decide (i64.wrap ai<(↑f.snd.fst.length:Int))) (.g ((.c,[ah ((f.snd.fst.getD (i64.wrap ai).toNat .m).D 1).I],[]))) .d) (.c (dp g.fst==10) (.g ((.c,[ah (bZ g.fst)],[]))) (.g ((.b,[.A [p,ah (dp g.fst),ah (bZ g.fst),.h (eI g.fst),ah (iD g.fst),.h (jJ g.fst),.d 177 (dG g.fst),.d 97 (aP g.fst),.d 97 (bf g.fst),.d 97 g.snd.fst,ah (↑g.snd.snd:Int)],ah e],[]))))):af (aU×List aa×List aj)).D:=ae
def Hp(c:List dq):Prop:=c≠ []/\c.length<=25/\∀f∈c,f.2.2<f.2.1.length/\f.2.1.length<=bP
def ag3(e:Int):∀(n:Nat)(f:dq)(c:List dq),(f::c).length<=n->(∀g∈f::c,g.2.2<g.2.1.length/\g.2.1.length<=bP)->bw an (aL []) we 0 1 [ez (f::c),.c .i64 e] [] (.c,[.c .i64 (mw n (ez (f::c)) e)],[])
 |0,f,c,h,_=>by simp at h
 |n+1,f,c,h,hc=>by
  have hf:=hc f aB;have nq:bP=9223372036854775807:=rfl;have ew:i64.wrap ((f.2.2:Int)+1)=(f.2.2:Int)+1:=ep ab ab;have zI:∀k:Int,decide ((f.2.2:Int)+1<k)=true->(decide ((0:Int)<=(f.2.2:Int)+1) &&decide ((f.2.2:Int)+1<k))=true:=λk hk=>by rw[hk,aD (show(0:Int)<=(f.2.2:Int)+1 from ab)];rfl
  cases c with
  |nil=>have bg:=aCs f e;rw[ew]at bg;refine eB.V Wa 0 ae ae cv bg (eB.U (f:=λi=>(.c,[.c .i64 i],[])) (λh1=>.D (zI _ h1) (.I rfl rfl)) λ_=>.I rfl rfl)
  |cons g r=>have bg:=aCt (ez r) f g e;rw[ew]at bg;refine eB.V Wa 0 ae ae cv bg (eB.U (f:=λi=>(.c,[.c .i64 i],[])) (λh1=>.D (zI _ h1) (.I rfl rfl)) λ_=> ?_);refine eB.U (f:=λi=>(.c,[.c .i64 i],[])) (λ_=>.I rfl rfl) λ_=>.mR ?_;exact ag3 e n g r (by simpa using h) (λx hx=>hc x (by simp[hx]))
def Hq(p:aa):Bool:=ij (∃c,p=ez c/\Hp c)
def Wh:dk:=λm_ key vs os=>match vs,os with
 | [p,.c .i64 e],[]=>.I (ij (∃c,p=ez c/\Hp c) &&Nat.beq m_ 0 &&Nat.beq key 1) (.g (.c,[.c .i64 (mw 25 p e)],[]))
 |_,_=>.d
def aCu:cJ an (aL []) we Wh:=by
 intro m_ key vs os r h;unfold Wh at h;split at h
 ·rename_i p e;obtain⟨h1,h2⟩:=aO h;simp only[au]at h1;obtain⟨⟨hi,hm⟩,hk⟩:=h1;obtain rfl:=aV hm;obtain rfl:=aV hk;obtain⟨c,rfl,qT,fw,dw⟩:=rI hi;cases h2;cases c with
  |nil=>exact absurd rfl qT
  |cons f c=>exact ag3 e 25 f c fw dw
 ·simp[af.D]at h
def aCv(cs e):(aI (ay an (aL []) we Wh) false f248 [.A cs,ah e] []).D=((af.c (ij (∃c,.A cs=ez c/\Hp c) &&Nat.beq 0 0 &&Nat.beq 1 1) (.g (ia (mw 25 (.A cs) e))) .d)).D:=ae
def Wi:aq| [.A cs,.c .i64 e],[]=>.I (Hq (.A cs)) (.g (.a (.c .i64 (mw 25 (.A cs) e)) [])) |_,_=>.d
def ag4:aH 248 Wi:=dN aW c_ aQ Wa rfl aCu λp q r h=>by
 unfold Wi at h;split at h
 ·rename_i cs e;obtain⟨h1,h2⟩:=aO h;refine(aCv cs e).trans (bS (aZ (by rw[show ij (∃c,aa.A cs=ez c/\Hp c)=true from h1];rfl) rfl) h2)
 ·cases h
def ag5{f:List dq->List aa->List (List dq)}{c p:List dq}{blk}:∀{r:List aa}{i:Nat},p∈jq f c blk i r↔∃j,∃h:j<r.length,p=(r[j],blk,i+j)::c\/p∈f ((r[j],blk,i+j)::c) (aP r[j])\/p∈f ((r[j],blk,i+j)::c) (bf r[j])
 | [],i=>by simp[jq]
 |s::r,i=>by
  rw[jq,jc,xh,xh,ag5 (r:=r) (i:=i+1)];constructor
  ·rintro(h |h |h | ⟨j,hj,h⟩)
   ·exact⟨0,aB,.inl h⟩
   ·exact⟨0,aB,.inr (.inl h)⟩
   ·exact⟨0,aB,.inr (.inr h)⟩
   ·refine⟨j+1,by simpa using hj,?_⟩;rw[show i+1+j=i+(j+1)from ab]at h;exact h
  ·rintro⟨j,hj,h⟩;cases j with
   |zero=>
        rcases h with h |h |h
        ·exact .inl h
        ·exact .inr (.inl h)
        ·exact .inr (.inr (.inl h))
   |succ j=>refine .inr (.inr (.inr ⟨j,by simpa using hj,?_⟩));rw[show i+1+j=i+(j+1)from ab];exact h
def D0{p:List dq}:p∈ba (m+1) c blk↔∃j,∃h:j<blk.length,p=(blk[j],blk,j)::c\/p∈ba m ((blk[j],blk,j)::c) (aP blk[j])\/p∈ba m ((blk[j],blk,j)::c) (bf blk[j]):=by rw[ba,ag5];simp only[gF]
def Wj:∀(m:Nat)(l:List aa),cK m l=true->cK (m+1) l=true
 |0,l,h=>by rw[cK,tD]at h;subst h;rfl
 |m+1,l,h=>by have h1:=uR h;rw[cK,au,bC,dS];refine⟨Ll h,λs hs=> ?_⟩;rw[au];exact⟨Wj m _ (h1 s hs).1,Wj m _ (h1 s hs).2⟩
structure ag6(L:List (List dq))(c0 p:List dq)(m:Nat):Prop where
 a:∃s b i r,p=(s,b,i)::r/\b[i]? =some s/\cK m b=true/\(∀j(h:j<b.length),(b[j],b,j)::r∈L)/\(r=c0\/r∈L)/\
  (∀j(h:j<(aP s).length),((aP s)[j],aP s,j)::p∈L)/\(∀j(h:j<(bf s).length),((bf s)[j],bf s,j)::p∈L)
 c:p.length<=c0.length+m
def D1:∀(m:Nat)(c:List dq)(blk:List aa),cK m blk=true->∀p∈ba m c blk,ag6 (ba m c blk) c p m
 |0,c,blk,_,p,h=>by cases h
 |m+1,c,blk,hn,p,h=>by
  obtain⟨j,hj,h⟩:=D0.1 h;obtain⟨n1,n2⟩:=uR hn blk[j] (mE _);have kids:∀(l:List aa),cK m l=true->∀k(h:k<l.length),∀q,(l[k],l,k)::q∈ba m q l:=λl hl k hk q=>by
   cases m with
   |zero=>rw[cK,tD]at hl;subst hl;cases hk
   |succ m=>exact D0.2 ⟨k,hk,.inl rfl⟩
  have up:∀(l:List aa),(∀x,x∈ba m ((blk[j],blk,j)::c) l->x∈ba (m+1) c blk)->cK m l=true->p∈ba m ((blk[j],blk,j)::c) l->ag6 (ba (m+1) c blk) c p (m+1):=λl mF hl hp=>by
   obtain⟨⟨s,b,i,r,e1,e2,e3,e4,e5,e6,e7⟩,e8⟩:=D1 m _ l hl p hp;refine⟨⟨s,b,i,r,e1,e2,Wj m b e3,λk hk=>mF _ (e4 k hk),?_,λk hk=>mF _ (e6 k hk),λk hk=>mF _ (e7 k hk)⟩,?_⟩
   ·rcases e5 with e5 |e5
    ·exact .inr (e5▸D0.2 ⟨j,hj,.inl rfl⟩)
    ·exact .inr (mF _ e5)
   ·simp only[eM]at e8;omega
  have s1:∀x,x∈ba m ((blk[j],blk,j)::c) (aP blk[j])->x∈ba (m+1) c blk:=λx hx=>D0.2 ⟨j,hj,.inr (.inl hx)⟩;have s2:∀x,x∈ba m ((blk[j],blk,j)::c) (bf blk[j])->x∈ba (m+1) c blk:=λx hx=>D0.2 ⟨j,hj,.inr (.inr hx)⟩;rcases h with rfl |h |h
  ·refine⟨⟨blk[j],blk,j,c,rfl,cV hj,hn,λk hk=>D0.2 ⟨k,hk,.inl rfl⟩,.inl rfl,λk hk=>s1 _ (kids _ n1 k hk _),λk hk=>s2 _ (kids _ n2 k hk _)⟩,by simp only[eM];omega⟩
  ·exact up _ s1 n1 h
  ·exact up _ s2 n2 h
def aCw(hm:m<=25)(hn:cK m blk=true):∀(p:List dq),p∈ba m [] blk->Hp p:=by
 have key:∀(n:Nat)(p:List dq),p.length=n->p∈ba m [] blk->∀f∈p,f.2.2<f.2.1.length/\f.2.1.length<=bP:=by
  intro n;induction n using Nat.strongRecOn with
  |ind n ih=>
   intro p hl hp f hf;obtain⟨⟨s,b,i,r,rfl,e2,e3,_,e5,_⟩,_⟩:=D1 m [] blk hn p hp;rcases List.mem_cons.1 hf with rfl |hf
   ·exact⟨(List.getElem?_eq_some_iff.1 e2).1,Ll e3⟩
   ·rcases e5 with rfl |e5
    ·cases hf
    ·exact ih r.length (by simp at hl;omega) r rfl e5 f hf
 intro p hp;obtain⟨⟨s,b,i,r,rfl,_⟩,e8⟩:=D1 m [] blk hn p hp;exact⟨aB,by simp only[eM,rQ]at e8⊢;omega,key _ _ rfl hp⟩
def y8:∀(L:List (List dq))(n:Int),uS n L->∀p∈L,n<=qD p/\qD p<n+L.length
 |c::r,n,h,p,hp=>by
  rcases List.mem_cons.1 hp with rfl |hp
  ·have:=h.1;simp;omega
  ·have:=y8 r (n+1) h.2 p hp;simp;omega
def Wk{m:Nat}{blk}(hn:cK m blk=true)(hs:uS 0 (ba m [] blk)):∀(n:Nat)(p:List dq),p∈ba m [] blk->0<=mw n (ez p) ((ba m [] blk).length:Int)/\mw n (ez p) ((ba m [] blk).length:Int)<=((ba m [] blk).length:Int)
 |0,p,hp=>by unfold mw;omega
 |n+1,p,hp=>by
  obtain⟨⟨s,b,i,r,rfl,e2,e3,e4,e5,_⟩,_⟩:=D1 m [] blk hn p hp;have hb:mw (n+1) (ez ((s,b,i)::r)) ((ba m [] blk).length:Int)=bif decide ((i:Int)+1<(b.length:Int))then bZ (b.getD ((i:Int)+1).toNat .m)else
   bif ag2 (ez r)then(bif (rK (ez r) 1).I==10 then(rK (ez r) 2).I else mw n (ez r) ((ba m [] blk).length:Int))else((ba m [] blk).length:Int):=rfl
  rw[hb];cases h1:decide ((i:Int)+1<(b.length:Int))with
  |true=>have h2:=ff h1;have hi:((i:Int)+1).toNat=i+1:=ab;have h3:i+1<b.length:=ab;have h4:=y8 _ 0 hs _ (e4 (i+1) h3);rw[hi,dD,cV h3];show 0<=bZ b[i+1]/\bZ b[i+1]<=_;have h5:qD ((b[i+1],b,i+1)::r)=bZ b[i+1]:=rfl;omega
  |false=>
   cases r with
   |nil=>show(0:Int)<=((ba m [] blk).length:Int)/\((ba m [] blk).length:Int)<=_;omega
   |cons g q=>
    have hr:g::q∈ba m [] blk:=by
     rcases e5 with e5 |e5
     ·cases e5
     ·exact e5
    have h4:=y8 _ 0 hs _ hr;have h5:qD (g::q)=bZ g.1:=rfl;show 0<=(bif dp g.1==10 then bZ g.1 else mw n (ez (g::q)) ((ba m [] blk).length:Int))/\(bif dp g.1==10 then bZ g.1 else mw n (ez (g::q)) ((ba m [] blk).length:Int))<=_;cases dp g.1==10 with
    |true=>show 0<=bZ g.1/\bZ g.1<=_;omega
    |false=>exact Wk hn hs n _ hr
def Wl:FuncId->aq:=aL [(169,Hn),(248,Wi)]
def aCx(nm ps rs bo ct no):(aI (ay an (aL [(169,Hn)]) RO aK) false f136 [aG nm ps rs bo ct,ah no] []).D=((letI ai:=dC no (ba 20 [] bo);letI ak:List aa:=[ah 0,ah 0,.h [],ah 0,.h [],.w,.w,.w];letI aw:=ai.getD 0 lp;af.c (bF [aG nm ps rs bo ct]) (.c (ai.isEmpty) (al (.q [.u ak,ah 3]) []) (al (.q [dL (dp aw.fst) (bZ aw.fst) (eI aw.fst) (iD aw.fst) (jJ aw.fst) (dG aw.fst) (aP aw.fst) (bf aw.fst),ah 0]) [])) (al (.q [.u ak,ah 2]) [])):af aC).D:=ae
def aCy(nm ps rs bo ct no):(aI (ay an Wl RP aK) false f217 [aG nm ps rs bo ct,ah no] []).D=((letI ai:=dC no (ba 20 [] bo);letI ak:=ai.getD 0 lp;letI aw:aa:=.A [ez ai.tail,ah (dp ak.fst),ah (bZ ak.fst),.h (eI ak.fst),ah (iD ak.fst),.h (jJ ak.fst),.d 177 (dG ak.fst),.d 97 (aP ak.fst),.d 97 (bf ak.fst),.d 97 ak.snd.fst,ah (↑ak.snd.snd:Int)];af.c (bF [aG nm ps rs bo ct]) (.c (ai.isEmpty) (al (.q [ah 0,ah 3]) []) (.c (Hq aw) (al (.q [ah (mw 25 aw ct),ah 0]) []) .d)) (al (.q [ah 0,ah 2]) [])):af aC).D:=ae
def aCz(nm ps rs bo ct no):(aI (ay an Wl Kb aK) false f216 [aG nm ps rs bo ct,ah no,.p true] []).D=((letI ai:=dC no (ba 20 [] bo);letI ak:=ai.getD 0 lp;letI aw:af aC:=al (.q [ah 0,ah 2]) [];letI aS:=aP ak.fst;letI bx:=(↑aS.length:Int);letI bX:aa:=.A [ez ai.tail,ah (dp ak.fst),ah (bZ ak.fst),.h (eI ak.fst),ah (iD ak.fst),.h (jJ ak.fst),.d 177 (dG ak.fst),.d 97 aS,.d 97 (bf ak.fst),.d 97 ak.snd.fst,ah (↑ak.snd.snd:Int)];letI cI:af aC:=.c (decide (bx>0)) (.c (decide ((0:Int)<=0) &&decide (0<bx)) (al (.q [ah ((aS.getD (Int.toNat (0:Int)) .m).D 1).I,ah 0]) []) .d) (.c (dp ak.fst==10) (al (.q [ah no,ah 0]) []) (.c (Hq bX) (al (.q [ah (mw 25 bX ct),ah 0]) []) .d));af.c (bF [aG nm ps rs bo ct]) (.c (ai.isEmpty) (al (.q [ah 0,ah 3]) []) (.c (dp ak.fst !=9) (.c (dp ak.fst !=10) aw cI) cI)) aw):af aC).D:=ae
def aCA(nm ps rs bo ct no):(aI (ay an Wl Kb aK) false f216 [aG nm ps rs bo ct,ah no,.p false] []).D=((letI ai:=dC no (ba 20 [] bo);letI ak:=ai.getD 0 lp;letI aw:af aC:=al (.q [ah 0,ah 2]) [];letI aS:=bf ak.fst;letI bx:=(↑aS.length:Int);letI bX:aa:=.A [ez ai.tail,ah (dp ak.fst),ah (bZ ak.fst),.h (eI ak.fst),ah (iD ak.fst),.h (jJ ak.fst),.d 177 (dG ak.fst),.d 97 (aP ak.fst),.d 97 aS,.d 97 ak.snd.fst,ah (↑ak.snd.snd:Int)];letI cI:af aC:=.c (decide (bx>0)) (.c (decide ((0:Int)<=0) &&decide (0<bx)) (al (.q [ah ((aS.getD (Int.toNat (0:Int)) .m).D 1).I,ah 0]) []) .d) (.c (Hq bX) (al (.q [ah (mw 25 bX ct),ah 0]) []) .d);af.c (bF [aG nm ps rs bo ct]) (.c (ai.isEmpty) (al (.q [ah 0,ah 3]) []) (.c (dp ak.fst !=9) (.c (dp ak.fst !=10) aw cI) cI)) aw):af aC).D:=ae
def aCB(nm ps rs bo ct no):(aI (ay an (aL [(169,Hn),(170,Ho 20)]) RN aK) false f125 [aG nm ps rs bo ct,ah no] []).D=((letI ai:=dC no (ba 20 [] bo);letI ak:=ai.getD 0 lp;af.c (bF [aG nm ps rs bo ct]) (.c (ai.isEmpty) (al (.q [ah 0,ah 3]) []) (.c (cK 20 ak.snd.fst &&decide (0<(↑ak.snd.fst.length:Int))) (al (.q [ah (wW 20 ak.snd.fst),ah 0]) []) .d)) (al (.q [ah 0,ah 2]) [])):af aC).D:=ae
def Wm(hf:f=aG nm ps rs bo ct)(hp:bF [f]=true)(hc:(dC no (ba 20 [] bo)).isEmpty=false):dC no (ba 20 [] bo)∈ba 20 [] bo/\Hq (qC (ez (dC no (ba 20 [] bo)).tail) ((dC no (ba 20 [] bo)).getD 0 lp))=true:=by subst hf;obtain⟨hn,_⟩:=n9 (mv hp);have h1:=A8 no _ hc;refine⟨h1,rH ⟨dC no (ba 20 [] bo),(Mr hc).symm,aCw av hn _ h1⟩⟩
def lq(bo:List aa)(no:Int):aa:=((dC no (ba 20 [] bo)).getD 0 lp).1
def Wn(bo:List aa)(no:Int):aa:=qC (ez (dC no (ba 20 [] bo)).tail) ((dC no (ba 20 [] bo)).getD 0 lp)
def fg(f:aa)(bo:List aa)(no:Int):aa×Int:=bif bF [f]then(bif (dC no (ba 20 [] bo)).isEmpty then(dL 0 0 [] 0 [] [] [] [],3)else(dV (lq bo no),0))else(dL 0 0 [] 0 [] [] [] [],2)
def ag7(r:aa×Int):aC:=.a (.q [dV r.1,.c .i64 r.2]) []
def Wo:aq| [.u [.h nm,.d 101 ps,.c .i64 rs,.d 97 bo,.c .i64 ct],.c .i64 no],[]=>.g (.a (.q [dV (fg (aG nm ps rs bo ct) bo no).1,.c .i64 (fg (aG nm ps rs bo ct) bo no).2]) []) |_,_=>.d
def ag8{e:Int}:dO (.g (.a (.q [.u [.c .i64 0,.c .i64 0,.h [],.c .i64 0,.h [],.w,.w,.w],.c .i64 e]) [])) (ag7 (dL 0 0 [] 0 [] [] [] [],e)):=
 .nL (.a _ (.U (.I (.V (.D _ (.D _ (.D _ (.D _ (.D _ (.I (.D _) (.I (.D _) (.I (.D _) .U))))))))) (.D _ .U))))
def ag9:aH 136 Wo:=pX (aA Ms aQ) aB' λp q r h=>by
 unfold Wo at h;split at h
 ·rename_i nm ps rs bo ct no;cases h;refine .V (aCx nm ps rs bo ct no) ?_;show dO _ (ag7 (fg (aG nm ps rs bo ct) bo no));unfold fg;exact .I (λ_=>.I (λ_=>ag8) λ_=>.U rfl) λ_=>ag8
 ·cases h
def Mt(r:Int×Int):aC:=.a (.q [.c .i64 r.1,.c .i64 r.2]) []
def y9(f:aa)(bo:List aa)(ct no:Int):Int×Int:=bif bF [f]then(bif (dC no (ba 20 [] bo)).isEmpty then(0,3)else(mw 25 (Wn bo no) ct,0))else(0,2)
def Wp:aq| [.u [.h nm,.d 101 ps,.c .i64 rs,.d 97 bo,.c .i64 ct],.c .i64 no],[]=>.g (.a (.q [.c .i64 (y9 (aG nm ps rs bo ct) bo ct no).1,.c .i64 (y9 (aG nm ps rs bo ct) bo ct no).2]) []) |_,_=>.d
def aCC:aH 217 Wp:=bI (aA Ms (aA ag4 aQ)) aCa λp q r h=>by
 unfold Wp at h;split at h
 ·rename_i nm ps rs bo ct no;refine(aCy nm ps rs bo ct no).trans (bS ?_ h);show _=some (Mt (y9 (aG nm ps rs bo ct) bo ct no));exact bK (λhp=>bK (λ_=>rfl) λhc=>aZ (Wm rfl hp hc).2 rfl) λ_=>rfl
 ·cases h
def Hr(cd:Bool)(bo:List aa)(ct no:Int):Int×Int:=bif decide (((bif cd then aP (lq bo no)else bf (lq bo no)).length:Int)>0)then(bZ ((bif cd then aP (lq bo no)else bf (lq bo no)).getD (Int.toNat 0) .m),0)else bif cd then(bif dp (lq bo no)==10 then(no,0)else(mw 25 (Wn bo no) ct,0))else(mw 25 (Wn bo no) ct,0)
def mZ(f:aa)(cd:Bool)(bo:List aa)(ct no:Int):Int×Int:=bif bF [f]then(bif (dC no (ba 20 [] bo)).isEmpty then(0,3)else bif dp (lq bo no) !=9 then(bif dp (lq bo no) !=10 then(0,2)else Hr cd bo ct no)else Hr cd bo ct no)else(0,2)
def Wq:aq| [.u [.h nm,.d 101 ps,.c .i64 rs,.d 97 bo,.c .i64 ct],.c .i64 no,.p cd],[]=>.g (.a (.q [.c .i64 (mZ (aG nm ps rs bo ct) cd bo ct no).1,.c .i64 (mZ (aG nm ps rs bo ct) cd bo ct no).2]) []) |_,_=>.d
def Mu(h:decide ((l.length:Int)>0)=true):(decide ((0:Int)<=0) &&decide ((0:Int)<(l.length:Int)))=true:=h
def aCD:aH 216 Wq:=bI (aA Ms (aA ag4 aQ)) aCb λp q r h=>by
 unfold Wq at h;split at h
 ·rename_i nm ps rs bo ct no cd;cases cd with
  |true=>refine(aCz nm ps rs bo ct no).trans (bS ?_ h);show _=some (Mt (mZ (aG nm ps rs bo ct) true bo ct no));refine bK (λhp=>bK (λ_=>rfl) λhc=> ?_) λ_=>rfl;have hk:=(Wm rfl hp hc).2;exact bK (λ_=>bK (λ_=>rfl) λ_=>bK (λh1=>aZ (Mu h1) rfl) λ_=>bK (λ_=>rfl) λ_=>aZ hk rfl) λ_=>bK (λh1=>aZ (Mu h1) rfl) λ_=>bK (λ_=>rfl) λ_=>aZ hk rfl
  |false=>refine(aCA nm ps rs bo ct no).trans (bS ?_ h);show _=some (Mt (mZ (aG nm ps rs bo ct) false bo ct no));refine bK (λhp=>bK (λ_=>rfl) λhc=> ?_) λ_=>rfl;have hk:=(Wm rfl hp hc).2;exact bK (λ_=>bK (λ_=>rfl) λ_=>bK (λh1=>aZ (Mu h1) rfl) λ_=>aZ hk rfl) λ_=>bK (λh1=>aZ (Mu h1) rfl) λ_=>aZ hk rfl
 ·cases h
def Hs(f:aa)(bo:List aa)(no:Int):Int×Int:=bif bF [f]then(bif (dC no (ba 20 [] bo)).isEmpty then(0,3)else(wW 20 ((dC no (ba 20 [] bo)).getD 0 lp).2.1,0))else(0,2)
def Wr:aq| [.u [.h nm,.d 101 ps,.c .i64 rs,.d 97 bo,.c .i64 ct],.c .i64 no],[]=>.g (.a (.q [.c .i64 (Hs (aG nm ps rs bo ct) bo no).1,.c .i64 (Hs (aG nm ps rs bo ct) bo no).2]) []) |_,_=>.d
def aCE:aH 125 Wr:=bI (aA Ms (aA (ag1 20) aQ)) aB_ λp q u h=>by
 unfold Wr at h;split at h
 ·rename_i nm ps rs bo ct no;refine(aCB nm ps rs bo ct no).trans (bS ?_ h);show _=some (Mt (Hs (aG nm ps rs bo ct) bo no));refine bK (λhp=>bK (λ_=>rfl) λhc=>aZ ?_ rfl) λ_=>rfl;obtain⟨hn,_⟩:=n9 (mv hp);obtain⟨⟨s,b,i,r,e1,e2,e3,_⟩,_⟩:=D1 20 [] bo hn _ (A8 no _ hc);have hb:((dC no (ba 20 [] bo)).getD 0 lp).2.1=b:=by rw[e1];rfl
  rw[hb,e3];have:=(List.getElem?_eq_some_iff.1 e2).1;exact aD (show(0:Int)<(b.length:Int)from ab)
 ·cases h
def aCF:=aR 90 Kc ae
def aCG:=aR 91 RQ ae
def Ws:=aR 51 ry ae
def aCH(ks vs nm ty no fr to):(aI (ay an (aL []) Kc aK) false f90 [.e 0 0,oS nm ty no fr to] [az [.w,.F 1],.d false 154 ks vs]).D=((af.c ((iN {a:=1,b:=false,e:=16,d:=[bY.b],c:=mK.b,f:=false} (.h nm) ks vs).isSome) (al (ah 11) [az [.w,.F 1],.d false 154 ks vs]) (al (ah 0) [az [.y 72 2 0 1,.F 1],.d false 154 (fL {a:=1,b:=false,e:=16,d:=[bY.b],c:=mK.b,f:=false} (.h nm) (ah (↑0:Int)) ks vs).fst (fL {a:=1,b:=false,e:=16,d:=[bY.b],c:=mK.b,f:=false} (.h nm) (ah (↑0:Int)) ks vs).snd,.b false 0 72 [oS nm ty no fr to]]))).D:=ae
def aCI(ks vs x n nm ty no fr to):(aI (ay an (aL []) Kc aK) false f90 [.e 0 0,oS nm ty no fr to] [az [.y 72 1 0 n,.F 2],.b false 0 72 x,.d false 154 ks vs]).D=((letI ai:List aj:=[az [.y 72 1 0 n,.F 2],.b false 0 72 x,.d false 154 ks vs];letI ak:=x++ [oS nm ty no fr to];af.c ((iN {a:=1,b:=false,e:=16,d:=[bY.b],c:=mK.b,f:=false} (.h nm) ks vs).isSome) (al (ah 11) ai) (.c (decide ((↑n:Int)>=50)) (al (ah 10) ai) (.c (decide (x.length+1<=4294967296)) (al (ah 0) [az [.y 72 1 1 ak.length,.F 2],.b false 1 72 ak,.d false 154 (fL {a:=1,b:=false,e:=16,d:=[bY.b],c:=mK.b,f:=false} (.h nm) (ah (↑n:Int)) ks vs).fst (fL {a:=1,b:=false,e:=16,d:=[bY.b],c:=mK.b,f:=false} (.h nm) (ah (↑n:Int)) ks vs).snd]) .d))):af aC).D:=ae
def aCJ(nm ps rs bo ct no):(aI (ay an (aL [(124,Wg),(125,Wr)]) RQ aK) false f91 [aG nm ps rs bo ct,ah no] []).D=((af.c (!(DZ (aG nm ps rs bo ct) bo no).snd.fst) (.g (ia (i64.wrap (ct+1)))) (.g (ia (i64.wrap ((Hs (aG nm ps rs bo ct) bo no).fst+1)))))).D:=ae
def uT(nm:List UInt8)(ks vs:List aa):Bool:=(iN oR (.h nm) ks vs).isSome
def A9(nm:List UInt8)(n:Int)(ks vs:List aa):List aa:=(fL oR (.h nm) (.c .i64 n) ks vs).1
def A_(nm:List UInt8)(n:Int)(ks vs:List aa):List aa:=(fL oR (.h nm) (.c .i64 n) ks vs).2
def Wt:aq
 | [.e 0 0,.u [.h nm,.c .i64 ty,.c .i64 no,.c .i64 fr,.c .i64 to]],[.a false [.w,.F 1],.d false 154 ks vs]=>
  .c (uT nm ks vs) (.g (.a (.c .i64 11) [.a false [.w,.F 1],.d false 154 ks vs])) (.g (.a (.c .i64 0) [.a false [.y 72 2 0 1,.F 1],.d false 154 (A9 nm 0 ks vs) (A_ nm 0 ks vs),.b false 0 72 [oS nm ty no fr to]]))
 | [.e 0 0,.u [.h nm,.c .i64 ty,.c .i64 no,.c .i64 fr,.c .i64 to]],[.a false [.y 72 1 0 n,.F 2],.b false 0 72 x,.d false 154 ks vs]=>
  .I (decide (x.length<=100)) (.c (uT nm ks vs) (.g (.a (.c .i64 11) [.a false [.y 72 1 0 n,.F 2],.b false 0 72 x,.d false 154 ks vs]))
   (.c (decide ((n:Int)>=50)) (.g (.a (.c .i64 10) [.a false [.y 72 1 0 n,.F 2],.b false 0 72 x,.d false 154 ks vs]))
   (.g (.a (.c .i64 0) [.a false [.y 72 1 1 (x++ [oS nm ty no fr to]).length,.F 2],.b false 1 72 (x++ [oS nm ty no fr to]),.d false 154 (A9 nm n ks vs) (A_ nm n ks vs)]))))
 |_,_=>.d
def aCK:aH 90 Wt:=bI aQ aCF λp q r h=>by
 unfold Wt at h;split at h
 ·exact(aCH _ _ _ _ _ _ _).trans h
 ·rename_i nm ty no fr to n x ks vs;obtain⟨h1,h2⟩:=aO h;refine(aCI ks vs x n nm ty no fr to).trans (bS ?_ h2);have hx:x.length<=100:=ff h1;refine eu (λh3=>(by rw[show uT nm ks vs=true from h3];rfl)) λh3=> ?_;rw[show uT nm ks vs=false from h3];refine eu (λh4=>(by rw[h4];rfl)) λh4=> ?_;rw[h4];exact aZ (aD (show x.length+1<=4294967296 from ab)) rfl
 ·cases h
def A'(f:aa)(bo:List aa)(ct no:Int):Int:=bif !(DZ f bo no).2.1 then i64.wrap (ct+1)else i64.wrap ((Hs f bo no).1+1)
def Wu:aq| [.u [.h nm,.d 101 ps,.c .i64 rs,.d 97 bo,.c .i64 ct],.c .i64 no],[]=>.g (.a (.c .i64 (A' (aG nm ps rs bo ct) bo ct no)) []) |_,_=>.d
def aCL:aH 91 Wu:=bI (aA aCq (aA aCE aQ)) aCG λp q r h=>by
 unfold Wu at h;split at h
 ·rename_i nm ps rs bo ct no;refine(aCJ nm ps rs bo ct no).trans (bS ?_ h);show _=some (ia (A' (aG nm ps rs bo ct) bo ct no));exact bK (λ_=>rfl) λ_=>rfl
 ·cases h
def y_:FuncId->aq:=aL [(27,wz),(90,Wt),(91,Wu),(53,DY)]
def gE(nm:List UInt8)(ps:List aa)(rs:Int)(bo:List aa)(ct:Int):aj:=.a false [.h nm,.d 101 ps,.c .i64 rs,.d 97 bo,.c .i64 ct]
def jK:List aa:=[.e 0 0,.e 1 0,.e 2 0,.e 3 0,.e 4 0]
def Mv(f:aj)(ks vs:List aa):List aj:=[f,.a false [.w],.a false [.c .i64 0],.a false [.c .i64 0],.a false [.e 5 0],.a false [.w,.F 6],.d false 154 ks vs]
def Mw(f:aj)(ks vs x:List aa)(n:Nat):List aj:=[f,.a false [.w],.a false [.c .i64 0],.a false [.c .i64 0],.a false [.e 5 0],.a false [.y 72 6 0 n,.F 7],.b false 0 72 x,.d false 154 ks vs]
def ag_(nm ps rs bo ct ks vs l len i):(cB (ay gD y_ ry aK) 0 6 (cq ry 0) (jK++ [.d 101 l,ah len,ah i]) (Mv (gE nm ps rs bo ct) ks vs)).D=((letI ai:=l.getD i.toNat .m;letI ak:=ai.D 0;letI aw:List aa:=[.e 0 0,.e 1 0,.e 2 0,.e 3 0,.e 4 0];letI aS:List aa:=[.h nm,.d 101 ps,ah rs,.d 97 bo,ah ct];af.c (decide (i<len)) (.c (decide (0<=i) &&decide (i<(↑l.length:Int))) (.c (uT ak.bJ ks vs) (.g ((.c,aw,[az aS,az [.d 0 []],cu (-1:Int),cu 11,az [.e 5 0],az [.w,.F 6],.d false 154 ks vs]))) (.g ((.b,[.e 0 0,.e 1 0,.e 2 0,.e 3 0,.e 4 0,.d 101 l,ah len,ah (i64.wrap (i+1))],[az aS,az [.w],cu 0,cu 0,az [.e 5 0],az [.y 72 6 0 1,.F 7],.b false 0 72 [oS ak.bJ (ai.D 1).I (-1:Int) 0 (i64.wrap (ct+1))],.d false 154 (A9 ak.bJ (0:Int) ks vs) (A_ ak.bJ (0:Int) ks vs)])))) .d) (.g ((.a 0,aw,[az aS,az [.w],cu 0,cu 0,az [.e 5 0],az [.w,.F 6],.d false 154 ks vs])))):af (aU×List aa×List aj)).D:=ae
def ag'(nm ps rs bo ct ks vs x l n len i):(cB (ay gD y_ ry aK) 0 6 (cq ry 0) (jK++ [.d 101 l,ah len,ah i]) (Mw (gE nm ps rs bo ct) ks vs x n)).D=((letI ai:=l.getD i.toNat .m;letI ak:=ai.D 0;letI aw:List aa:=[.e 0 0,.e 1 0,.e 2 0,.e 3 0,.e 4 0];letI aS:List aa:=[.h nm,.d 101 ps,ah rs,.d 97 bo,ah ct];letI bx:List aa:=[.y 72 6 0 n,.F 7];letI bX:=x++ [oS ak.bJ (ai.D 1).I (-1:Int) (0:Int) (i64.wrap (ct+1))];af.c (decide (i<len)) (.c (decide (0<=i) &&decide (i<(↑l.length:Int))) (.c (decide (x.length<=100)) (.c (uT ak.bJ ks vs) (.g ((.c,aw,[az aS,az [.d 0 []],cu (-1:Int),cu 11,az [.e 5 0],az bx,.b false 0 72 x,.d false 154 ks vs]))) (.c (decide ((↑n:Int)>=50)) (.g ((.c,aw,[az aS,az [.d 0 []],cu (-1:Int),cu 10,az [.e 5 0],az bx,.b false 0 72 x,.d false 154 ks vs]))) (.g ((.b,[.e 0 0,.e 1 0,.e 2 0,.e 3 0,.e 4 0,.d 101 l,ah len,ah (i64.wrap (i+1))],[az aS,az [.w],cu 0,cu 0,az [.e 5 0],az [.y 72 6 0 bX.length,.F 7],.b false 0 72 bX,.d false 154 (A9 ak.bJ (↑n:Int) ks vs) (A_ ak.bJ (↑n:Int) ks vs)]))))) .d) .d) (.g ((.a 0,aw,[az aS,az [.w],cu 0,cu 0,az [.e 5 0],az bx,.b false 0 72 x,.d false 154 ks vs])))):af (aU×List aa×List aj)).D:=ae
def aCM(nm ps rs bo ct ks vs s):(vY gD y_ ry aK 0 1 (.q [ah (bZ s),dV s]) jK (Mv (gE nm ps rs bo ct) ks vs)).D=((letI ai:List aa:=[.e 0 0,.e 1 0,.e 2 0,.e 3 0,.e 4 0];letI ak:List aa:=[.h nm,.d 101 ps,ah rs,.d 97 bo,ah ct];letI aw:=s.D 2;af.c ((s.D 0).I !=1) (.g ((.b,ai,[az ak,az [.w],cu 0,cu 0,az [.e 5 0],az [.w,.F 6],.d false 154 ks vs]))) (.c (uT aw.bJ ks vs) (.g ((.c,ai,[az ak,az [.d 0 []],cu (bZ s),cu 11,az [.e 5 0],az [.w,.F 6],.d false 154 ks vs]))) (.g ((.b,ai,[az ak,az [.w],cu 0,cu 0,az [.e 5 0],az [.y 72 6 0 1,.F 7],.b false 0 72 [oS aw.bJ (s.D 3).I (bZ s) (i64.wrap (bZ s+1)) (A' (aG nm ps rs bo ct) bo ct (bZ s))],.d false 154 (A9 aw.bJ (0:Int) ks vs) (A_ aw.bJ (0:Int) ks vs)]))))):af (aU×List aa×List aj)).D:=ae
def aCN(nm ps rs bo ct ks vs x n s):(vY gD y_ ry aK 0 1 (.q [ah (bZ s),dV s]) jK (Mw (gE nm ps rs bo ct) ks vs x n)).D=((letI ai:List aa:=[.e 0 0,.e 1 0,.e 2 0,.e 3 0,.e 4 0];letI ak:List aa:=[.h nm,.d 101 ps,ah rs,.d 97 bo,ah ct];letI aw:List aa:=[.y 72 6 0 n,.F 7];letI aS:=s.D 2;letI bx:=x++ [oS aS.bJ (s.D 3).I (bZ s) (i64.wrap (bZ s+1)) (A' (aG nm ps rs bo ct) bo ct (bZ s))];af.c ((s.D 0).I !=1) (.g ((.b,ai,[az ak,az [.w],cu 0,cu 0,az [.e 5 0],az aw,.b false 0 72 x,.d false 154 ks vs]))) (.c (decide (x.length<=100)) (.c (uT aS.bJ ks vs) (.g ((.c,ai,[az ak,az [.d 0 []],cu (bZ s),cu 11,az [.e 5 0],az aw,.b false 0 72 x,.d false 154 ks vs]))) (.c (decide ((↑n:Int)>=50)) (.g ((.c,ai,[az ak,az [.d 0 []],cu (bZ s),cu 10,az [.e 5 0],az aw,.b false 0 72 x,.d false 154 ks vs]))) (.g ((.b,ai,[az ak,az [.w],cu 0,cu 0,az [.e 5 0],az [.y 72 6 0 bx.length,.F 7],.b false 0 72 bx,.d false 154 (A9 aS.bJ (↑n:Int) ks vs) (A_ aS.bJ (↑n:Int) ks vs)]))))) .d)):af (aU×List aa×List aj)).D:=ae
structure jL where
 b:List aa
 c:List aa
 a:List aa
def Ba(a:jL)(no:Int)(nm:List UInt8)(ty fr to:Int):(Int×Int×jL)⊕jL:=bif uT nm a.b a.c then .inl (no,11,a)else bif decide ((a.a.length:Int)>=50)then .inl (no,10,a)else .inr ⟨A9 nm a.a.length a.b a.c,A_ nm a.a.length a.b a.c,a.a++ [oS nm ty no fr to]⟩
def Ht(ct:Int)(a:jL)(p:aa):(Int×Int×jL)⊕jL:=Ba a (-1) (p.D 0).bJ (p.D 1).I 0 (i64.wrap (ct+1))
def fK(c:List dq):aa:=(c.getD 0 lp).1
def uU(f:aa)(bo:List aa)(ct:Int)(a:jL)(c:List dq):(Int×Int×jL)⊕jL:=bif dp (fK c) !=1 then .inr a else Ba a (bZ (fK c)) (eI (fK c)) (iD (fK c)) (i64.wrap (bZ (fK c)+1)) (A' f bo ct (bZ (fK c)))
def Bb(f:aj)(a:jL):List aj:=match a.a with | []=>Mv f a.b a.c |v::r=>Mw f a.b a.c (v::r) (v::r).length
def aha(f:aj)(ks vs:List aa)(no e:Int):List aj:=[f,.a false [.d 0 []],.a false [.c .i64 no],.a false [.c .i64 e],.a false [.e 5 0],.a false [.w,.F 6],.d false 154 ks vs]
def ahb(f:aj)(ks vs x:List aa)(no e:Int):List aj:=[f,.a false [.d 0 []],.a false [.c .i64 no],.a false [.c .i64 e],.a false [.e 5 0],.a false [.y 72 6 0 x.length,.F 7],.b false 0 72 x,.d false 154 ks vs]
def aCO(f:aj)(q:Int×Int×jL):List aj:=match q.2.2.a with | []=>aha f q.2.2.b q.2.2.c q.1 q.2.1 |v::r=>ahb f q.2.2.b q.2.2.c (v::r) q.1 q.2.1
def Mx(f:aj)(q:Int×Int×jL):aU×List aa×List aj:=(.c,jK,aCO f q)
section
variable{nm:List UInt8}{ps:List aa}{rs:Int}{bo:List aa}{ct:Int}
def aCP(l)(hl:l.length<=1000):bw gD y_ ry 0 6 (jK++ [.d 101 l,.c .i64 (l.length:Int),.c .i64 0]) (Bb (gE nm ps rs bo ct) ⟨[],[],[]⟩) (ml (Mx (gE nm ps rs bo ct)) (λa=>(.a 0,jK,Bb (gE nm ps rs bo ct) a)) (cR (Ht ct) l ⟨[],[],[]⟩)):=by
 refine pz (rJ Ws) 0 ae ae cv (λn _=>jK++ [.d 101 l,.c .i64 (l.length:Int),.c .i64 n]) (λ_ a=>Bb (gE nm ps rs bo ct) a) (Ht ct) _ _ (λ_ a=>a.a.length<=50) l ⟨[],[],[]⟩ (ik _) ?_ ?_
 ·rintro n ⟨ks,vs,x⟩ hn hI;have hI:x.length<=50:=hI;cases x with
  |nil=>refine oF (ag_ nm ps rs bo ct ks vs l (l.length:Int) n) (dB (mm hn) (dB (jk hn) (jl (λ_=>ke rfl rfl) λ_=>jI ?_ (by show(1:Nat)<=50;omega))));rw[mn hn (by have:bP=9223372036854775807:=rfl;omega)];rfl
  |cons v r=>
   refine oF (ag' nm ps rs bo ct ks vs (v::r) l (v::r).length (l.length:Int) n) (dB (mm hn) (dB (jk hn) (dB (aD (show(v::r).length<=100 from ab)) (jl (λ_=>ke rfl rfl) λ_=>jl (λ_=>ke rfl rfl) λh5=>jI ?_ ?_))))
   ·rw[mn hn (by have:bP=9223372036854775807:=rfl;omega)];rfl
   ·have:=eS h5;show((v::r)++ [_]).length<=50;simp only[eG,eM,rQ]at this⊢;omega
 ·rintro⟨ks,vs,x⟩ _;cases x with
  |nil=>have e:=ag_ nm ps rs bo ct ks vs l (l.length:Int) l.length;rw[mP]at e;exact⟨e,rfl⟩
  |cons v r=>have e:=ag' nm ps rs bo ct ks vs (v::r) l (v::r).length (l.length:Int) l.length;rw[mP]at e;exact⟨e,rfl⟩
def ahc(L:List (List dq))(hL:∀c∈L,∃f r,c=f::r)(a:jL)(ha:a.a.length<=50):bw gD y_ ry 0 13 (.q (L.map gQ)::jK) (Bb (gE nm ps rs bo ct) a) (ml (Mx (gE nm ps rs bo ct)) (λa=>(.b,jK,Bb (gE nm ps rs bo ct) a)) (kg (uU (aG nm ps rs bo ct) bo ct) L a)):=by
 refine C5 (rJ Ws) 1 ae ae cv gQ (λ_=>jK) (λa=>Bb (gE nm ps rs bo ct) a) (uU (aG nm ps rs bo ct) bo ct) (Mx (gE nm ps rs bo ct)) (λa=>a.a.length<=50) L ?_ a ha;rintro⟨ks,vs,x⟩ c hc hI;obtain⟨f,r,rfl⟩:=hL c hc;have hI:x.length<=50:=hI;cases x with
 |nil=>exact C4 (aCM nm ps rs bo ct ks vs f.1) (jl (λ_=>jI rfl (ik _)) λ_=>jl (λ_=>ke rfl rfl) λ_=>jI rfl (by show(1:Nat)<=50;omega))
 |cons v q=>refine C4 (aCN nm ps rs bo ct ks vs (v::q) (v::q).length f.1) (jl (λ_=>jI rfl hI) λ_=>dB (aD (show(v::q).length<=100 from ab)) (jl (λ_=>ke rfl rfl) λ_=>jl (λ_=>ke rfl rfl) λh5=>jI rfl ?_));have:=eS h5;show((v::q)++ [_]).length<=50;simp only[eG,eM,rQ]at this⊢;omega
end
def rL(r:(Int×Int×jL)⊕jL):Bool×Int×Int×jL:=match r with | .inl q=>(true,q.1,q.2.1,q.2.2) | .inr a=>(false,0,0,a)
def pI(ps:List aa)(ct:Int):Bool×Int×Int×jL:=rL (cR (Ht ct) ps ⟨[],[],[]⟩)
def wX(f:aa)(ps bo:List aa)(ct:Int):Bool×Int×Int×jL:=rL (kg (uU f bo ct) (ba 20 [] bo) (pI ps ct).2.2.2)
def My(f:aj)(ex:aU)(w:Bool×Int×Int×jL):af (aU×List aa×List aj):=
 .c w.1 (.c w.2.2.2.a.isEmpty (.g (.c,jK,aha f w.2.2.2.b w.2.2.2.c w.2.1 w.2.2.1)) (.g (.c,jK,ahb f w.2.2.2.b w.2.2.2.c w.2.2.2.a w.2.1 w.2.2.1)))
  (.c w.2.2.2.a.isEmpty (.g (ex,jK,Mv f w.2.2.2.b w.2.2.2.c)) (.g (ex,jK,Mw f w.2.2.2.b w.2.2.2.c w.2.2.2.a w.2.2.2.a.length)))
def Wv(f:aj)(ex:aU)(r:(Int×Int×jL)⊕jL):(My f ex (rL r)).D=some (ml (Mx f) (λa=>(ex,jK,Bb f a)) r):=by
 cases r with
 |inl q=>obtain⟨no,e,ks,vs,x⟩:=q;cases x<;>rfl
 |inr a=>obtain⟨ks,vs,x⟩:=a;cases x<;>rfl
def Ww:dk:=λm_ key vs os=>match vs,os with
 | [.e 0 0,.e 1 0,.e 2 0,.e 3 0,.e 4 0,.d 101 l,.c .i64 len,.c .i64 0],[.a false [.h nm,.d 101 ps,.c .i64 rs,.d 97 bo,.c .i64 ct],.a false [.w],.a false [.c .i64 0],.a false [.c .i64 0],.a false [.e 5 0],.a false [.w,.F 6],.d false 154 [] []]=>
  .I (decide (l.length<=1000) &&decide (len=(l.length:Int)) &&Nat.beq m_ 0 &&Nat.beq key 6) (My (gE nm ps rs bo ct) (.a 0) (pI l ct))
 | [.q items,.e 0 0,.e 1 0,.e 2 0,.e 3 0,.e 4 0],[.a false [.h nm,.d 101 ps,.c .i64 rs,.d 97 bo,.c .i64 ct],.a false [.w],.a false [.c .i64 0],.a false [.c .i64 0],.a false [.e 5 0],.a false [.w,.F 6],.d false 154 ks vs]=>
  .I (ij (items=(ba 20 [] bo).map gQ) &&Nat.beq m_ 0 &&Nat.beq key 13) (My (gE nm ps rs bo ct) .b (rL (kg (uU (aG nm ps rs bo ct) bo ct) (ba 20 [] bo) ⟨ks,vs,[]⟩)))
 | [.q items,.e 0 0,.e 1 0,.e 2 0,.e 3 0,.e 4 0],[.a false [.h nm,.d 101 ps,.c .i64 rs,.d 97 bo,.c .i64 ct],.a false [.w],.a false [.c .i64 0],.a false [.c .i64 0],.a false [.e 5 0],.a false [.y 72 6 0 n,.F 7],.b false 0 72 x,.d false 154 ks vs]=>
  .I (ij (items=(ba 20 [] bo).map gQ) &&Nat.beq n x.length &&decide (x.length<=50) && !x.isEmpty &&Nat.beq m_ 0 &&Nat.beq key 13) (My (gE nm ps rs bo ct) .b (rL (kg (uU (aG nm ps rs bo ct) bo ct) (ba 20 [] bo) ⟨ks,vs,x⟩)))
 |_,_=>.d
def aCQ:cJ gD y_ ry Ww:=by
 intro m_ key vs os r h;unfold Ww at h;split at h
 ·rename_i l len nm ps rs bo ct;obtain⟨h1,h2⟩:=aO h;simp only[au,bC]at h1;obtain⟨⟨⟨hl,rfl⟩,hm⟩,hk⟩:=h1;obtain rfl:=aV hm;obtain rfl:=aV hk;unfold pI at h2;rw[Wv]at h2;cases h2;exact aCP l hl
 ·rename_i items nm ps rs bo ct ks vs;obtain⟨h1,h2⟩:=aO h;simp only[au]at h1;obtain⟨⟨hi,hm⟩,hk⟩:=h1;obtain rfl:=aV hm;obtain rfl:=aV hk;obtain rfl:=rI hi;rw[Wv]at h2;cases h2;exact ahc (ba 20 [] bo) (pH 20 [] bo) ⟨ks,vs,[]⟩ (ik _)
 ·rename_i items nm ps rs bo ct n x ks vs;obtain⟨h1,h2⟩:=aO h;simp only[au,bC]at h1;obtain⟨⟨⟨⟨⟨hi,hn⟩,hx⟩,he⟩,hm⟩,hk⟩:=h1;obtain rfl:=aV hm;obtain rfl:=aV hk;obtain rfl:=aV hn;obtain rfl:=rI hi;rw[Wv]at h2;cases h2;cases x with
  |nil=>cases he
  |cons v q=>exact ahc (ba 20 [] bo) (pH 20 [] bo) ⟨ks,vs,v::q⟩ hx
 ·simp[af.D]at h
def aCR(nm ps rs bo ct):(aI (ay gD y_ ry Ww) false f51 [aG nm ps rs bo ct] []).D=((letI ai:=bF [aG nm ps rs bo ct];letI ak:=(↑ps.length:Int);letI aw:=pI ps ct;letI aS:=aw.snd.snd.snd.a.isEmpty;letI bx:af aC:=al (.q [.d 0 [],ah aw.snd.fst,ah aw.snd.snd.fst]) [];letI bX:=Nat.beq 101 101 &&Nat.beq 97 97 &&bF [aG nm ps rs bo ct];letI cI:=ba 20 [] bo;letI fi:=uU (aG nm ps rs bo ct) bo ct;letI eA:=rL (kg fi cI {b:=aw.snd.snd.snd.b,c:=aw.snd.snd.snd.c,a:=[]});letI jC:=eA.snd.snd.snd.a.isEmpty;letI iw:af aC:=al (.q [.d 0 [],ah eA.snd.fst,ah eA.snd.snd.fst]) [];letI gv:af aC:=al (.q [.w,ah 0,ah 0]) [];letI ny:=rL (kg fi cI {b:=aw.snd.snd.snd.b,c:=aw.snd.snd.snd.c,a:=aw.snd.snd.snd.a});letI IS:=ny.snd.snd.snd.a.isEmpty;letI akL:af aC:=al (.q [.d 0 [],ah ny.snd.fst,ah ny.snd.snd.fst]) [];af.c (eY ai !=0) (al (.q [.d 0 [],ah 0,ah (eY ai)]) []) (.c (decide (ps.length<=1000) &&decide (ak=ak) &&Nat.beq 0 0 &&Nat.beq 6 6) (.c (aw.fst) (.c aS bx bx) (.c aS (.c bX (.c (ij (List.map gQ cI=List.map gQ cI) &&Nat.beq 0 0 &&Nat.beq 13 13) (.c (eA.fst) (.c jC iw iw) (.c jC gv (al (.q [.d 72 eA.snd.snd.snd.a,ah 0,ah 0]) []))) .d) .d) (.c bX (.c (ij (List.map gQ cI=List.map gQ cI) &&aw.snd.snd.snd.a.length.beq aw.snd.snd.snd.a.length &&decide (aw.snd.snd.snd.a.length<=50) && !aw.snd.snd.snd.a.isEmpty &&Nat.beq 0 0 &&Nat.beq 13 13) (.c (ny.fst) (.c IS akL akL) (.c IS gv (al (.q [.d 72 ny.snd.snd.snd.a,ah 0,ah 0]) []))) .d) .d))) .d)):af aC).D:=ae
def ahd{a:jL}(h:a.a.length<=50)(no:Int)(nm)(ty fr to:Int):(rL (Ba a no nm ty fr to)).2.2.2.a.length<=50:=by
 unfold Ba;cases uT nm a.b a.c with
 |true=>exact h
 |false=>
  cases hd:decide ((a.a.length:Int)>=50)with
  |true=>exact h
  |false=>have:=eS hd;show(a.a++ [_]).length<=50;simp only[eG,eM,rQ];omega
def ahe(ct:Int):∀(l:List aa)(a:jL),a.a.length<=50->(rL (cR (Ht ct) l a)).2.2.2.a.length<=50
 | [],a,h=>h
 |p::r,a,h=>by
  rw[cR];have h1:=ahd h (-1) (p.D 0).bJ (p.D 1).I 0 (i64.wrap (ct+1));cases hq:Ht ct a p with
  |inl q=>have e:Ba a (-1) (p.D 0).bJ (p.D 1).I 0 (i64.wrap (ct+1))=.inl q:=hq;rw[e]at h1;exact h1
  |inr a'=>have e:Ba a (-1) (p.D 0).bJ (p.D 1).I 0 (i64.wrap (ct+1))=.inr a':=hq;rw[e]at h1;exact ahe ct r a' h1
def Wx(f bo)(ct:Int):∀(l:List (List dq))(a:jL),a.a.length<=50->(rL (kg (uU f bo ct) l a)).2.2.2.a.length<=50
 | [],a,h=>h
 |c::r,a,h=>by
  rw[kg];have h1:=ahd h (bZ (fK c)) (eI (fK c)) (iD (fK c)) (i64.wrap (bZ (fK c)+1)) (A' f bo ct (bZ (fK c)));unfold uU;cases dp (fK c) !=1 with
  |true=>exact Wx f bo ct r a h
  |false=>
   simp only[ve];cases hq:Ba a (bZ (fK c)) (eI (fK c)) (iD (fK c)) (i64.wrap (bZ (fK c)+1)) (A' f bo ct (bZ (fK c)))with
   |inl q=>rw[hq]at h1;exact h1
   |inr a'=>rw[hq]at h1;exact Wx f bo ct r a' h1
def ahf(ps)(ct:Int):(pI ps ct).2.2.2.a.length<=50:=ahe ct ps ⟨[],[],[]⟩ (ik _)
def aCS(f ps bo)(ct:Int):(wX f ps bo ct).2.2.2.a.length<=50:=Wx f bo ct _ _ (ahf ps ct)
def my(f:aa)(ps bo:List aa)(ct:Int):List aa×Int×Int:=bif eY (bF [f]) !=0 then([],0,eY (bF [f]))else bif (pI ps ct).1 then([],(pI ps ct).2.1,(pI ps ct).2.2.1)else bif (wX f ps bo ct).1 then([],(wX f ps bo ct).2.1,(wX f ps bo ct).2.2.1)else((wX f ps bo ct).2.2.2.a,0,0)
def aCT(f ps bo)(ct:Int):(my f ps bo ct).1.length<=50:=by
 unfold my;cases eY (bF [f]) !=0 with
 |true=>exact ik _
 |false=>
  cases(pI ps ct).1 with
  |true=>exact ik _
  |false=>
   cases(wX f ps bo ct).1 with
   |true=>exact ik _
   |false=>exact aCS f ps bo ct
def Wy(r:List aa×Int×Int):aC:=.a (.q [.d 72 r.1,.c .i64 r.2.1,.c .i64 r.2.2]) []
def Wz:aq| [.u [.h nm,.d 101 ps,.c .i64 rs,.d 97 bo,.c .i64 ct]],[]=>.g (.a (.q [.d 72 (my (aG nm ps rs bo ct) ps bo ct).1,.c .i64 (my (aG nm ps rs bo ct) ps bo ct).2.1,.c .i64 (my (aG nm ps rs bo ct) ps bo ct).2.2]) []) |_,_=>.d
def Bc{n e:Int}:dO (.g (.a (.q [.d t [],.c .i64 n,.c .i64 e]) [])) (Wy ([],n,e)):=.nL (.a _ (.U (.I (Wkn.aeH _ _) (.D _ (.D _ .U)))))
def aCU:aH 51 Wz:=yi aW Hk (aA yJ (aA aCK (aA aCL (aA Mq aQ)))) (rJ Ws) rfl aCQ λp q r h=>by
 unfold Wz at h;split at h
 ·rename_i nm ps rs bo ct;cases h;refine .V (aCR nm ps rs bo ct) ?_;show dO _ (Wy (my (aG nm ps rs bo ct) ps bo ct));refine .I (λ_=>Bc) λh1=> ?_;have hp:bF [aG nm ps rs bo ct]=true:=by rw[GB]at h1;exact mQ h1
  have B6:=(n9 (mv hp)).2.2.2.2;refine .D (by rw[aD (show ps.length<=1000 from ab),aD rfl];rfl) (.I (λ_=>.kL (λ_=>Bc) λ_=>Bc) λ_=>.kL (λh2=> ?_) λh2=> ?_)
  ·have e1:wX (aG nm ps rs bo ct) ps bo ct=rL (kg (uU (aG nm ps rs bo ct) bo ct) (ba 20 [] bo) {b:=(pI ps ct).2.2.2.b,c:=(pI ps ct).2.2.2.c,a:=[]}):=by unfold wX;rw[<-List.isEmpty_iff.1 h2]
   rw[e1];refine .D (by rw[hp];rfl) (.D (by rw[rH rfl];rfl) (.I (λ_=>.kL (λ_=>Bc) λ_=>Bc) λ_=>.kL (λh3=> ?_) λ_=>.U rfl));rw[List.isEmpty_iff.1 h3];exact .nL (.a _ (.U (.I (.D _) (.D _ (.D _ .U)))))
  ·have e1:wX (aG nm ps rs bo ct) ps bo ct=rL (kg (uU (aG nm ps rs bo ct) bo ct) (ba 20 [] bo) {b:=(pI ps ct).2.2.2.b,c:=(pI ps ct).2.2.2.c,a:=(pI ps ct).2.2.2.a}):=rfl;rw[e1];refine .D (by rw[hp];rfl) (.D (by rw[rH rfl,gq,aD (ahf ps ct),h2];rfl) (.I (λ_=>.kL (λ_=>Bc) λ_=>Bc) λ_=>.kL (λh3=> ?_) λ_=>.U rfl));rw[List.isEmpty_iff.1 h3];exact .nL (.a _ (.U (.I (.D _) (.D _ (.D _ .U)))))
 ·cases h
structure D2(T:bz):Prop where
 b:T.a=1
 a:T.b=false
 c:T.d=[.a .i64]
section
variable{T:TypeId->bz}{G:Nat->aa}{Z O:Nat->Prop}{β:Nat->AH.bd}{w w':World}{t:TypeId}
def aCV(h:D2 (T t)){v}(hf:cA (T t) v=true):∃n,v=.c .i64 n:=by
 unfold cA at hf;rw[h.a,h.c]at hf;cases v with
 |c k n=>have:IntKind.i64=k:=ff hf;subst this;exact⟨n,rfl⟩
 |_=>cases hf
def ahg(h:D2 (T t)):∀{x:List aa}{b o:Nat},bN T w O x t b o->∃zs:List Int,x=zs.map (aa.c .i64)/\∀j n,zs[j]? =some n->w.cell? ⟨b,o+j,none⟩=some (.int .i64 n)
 | [],b,o,_=>⟨[],rfl,λj n hj=>by simp at hj⟩
 |v::x,b,o,hr=>by
  obtain⟨⟨hf,_⟩,⟨cs,hl,hc,hv⟩,hr⟩:=hr;obtain⟨n,rfl⟩:=aCV h hf;rw[h.b]at hl hr;obtain⟨zs,rfl,hz⟩:=ahg h hr;obtain⟨c,rfl⟩:=List.length_eq_one_iff.1 hl;rw[h.a]at hv;have hv:c=.int .i64 n:=hv;subst hv;refine⟨n::zs,rfl,λj m hj=> ?_⟩;cases j with
  |zero=>simp only[M0,Option.some.injEq]at hj;subst hj;exact hc 0 _ rfl
  |succ j=>have:=hz j m (by simpa using hj);rwa[show o+1+j=o+(j+1)from ab]at this
def ahh(h:D2 (T t)):∀{zs:List Int}{b o:Nat},(∀j n,zs[j]? =some n->w.cell? ⟨b,o+j,none⟩=some (.int .i64 n))->bN T w O (zs.map (aa.c .i64)) t b o
 | [],b,o,_=>trivial
 |z::zs,b,o,hc=>by
  refine⟨⟨?_,?_⟩,⟨[.int .i64 z],by rw[h.b];rfl,λj u hj=> ?_,?_⟩,?_⟩
  ·unfold cA;rw[h.a,h.c];rfl
  ·unfold dm;rw[h.a,h.c];rfl
  ·cases j with
   |zero=>simp only[M0,Option.some.injEq]at hj;subst hj;exact hc 0 z rfl
   |succ j=>simp at hj
  ·rw[h.a];exact rfl
  ·rw[h.b];refine ahh h λj n hj=> ?_;rw[show o+1+j=o+(j+1)from ab];exact hc (j+1) n (by simpa using hj)
def ahi(h:D2 (T t)){x}(hx:x≠ [])(cx:cY T G Z (a_ [.b false 0 t x]) β w):∃zs:List Int,x=zs.map (aa.c .i64)/\(β 0).d=false/\(β 0).a<w.heap.size/\x.length<=(β 0).b/\Go.Sort.Holds (Value.int .i64) w (β 0).a (β 0).c zs.toArray:=by
 obtain⟨_,h0 | ⟨hn,cur,h1,h2,h3,h4,h5⟩⟩:=cx.c 0
 ·exact absurd h0.2.1 hx
 obtain⟨zs,rfl,hz⟩:=ahg h h5;refine⟨zs,rfl,hn,(Array.getElem?_eq_some_iff.1 h1).1,h2,λj hj=>⟨?_,?_⟩⟩
 ·have hj:j<zs.length:=by simpa using hj
  rw[hz j zs[j] (by simp[hj])];simp[hj]
 ·simp[World.frozen?,h1]
def ahj(h:D2 (T t)){x}(cx:cY T G Z (a_ [.b false 0 t x]) β w){ys:List Int}(hz:x=zs.map (aa.c .i64))(hl:ys.length=zs.length)(hn:(β 0).d=false)(hh:Go.Sort.Holds (Value.int .i64) w (β 0).a (β 0).c zs.toArray)(hb:(β 0).a<w.heap.size)
 {os:Array Obj}(hw:w'=Go.Sort.grow (Go.Sort.putRow (Value.int .i64) (Go.Sort.ahead w n) (β 0).a (β 0).c ys.toArray) os):
  cY T G Z (a_ [.b false 0 t (ys.map (aa.c .i64))]) β w'/\∀m,dZ m (a_ [.b false 0 t x]) β w (a_ [.b false 0 t (ys.map (aa.c .i64))]) β w':=by
 obtain⟨ht,h0 | ⟨_,cur,h1,h2,h3,h4,h5⟩⟩:=cx.c 0
 ·rw[hn]at h0;cases h0.1
 have bE:w'.heap.size=w.heap.size+os.size:=by subst hw;show((Go.Sort.putRow (Value.int .i64) (Go.Sort.ahead w n) (β 0).a (β 0).c ys.toArray).heap++os).size=_;rw[HM,NS];rfl
 have aMh:∀b,b<w.heap.size->b≠(β 0).a->w'.heap[b]? =w.heap[b]? :=by intro b o8 eT;subst hw;rw[aj1 _ _ (by rw[NS];exact o8)];simp[Go.Sort.putRow,Go.Sort.mapBlock,Go.Sort.ahead,XV,lY eT]
 have aMi:w'.heap[(β 0).a]? =some (.cells (Go.Sort.putCells (Value.int .i64) (β 0).c ys.toArray cur) t (0,0)):=by subst hw;rw[aj1 _ _ (by rw[NS];exact hb)];simp[Go.Sort.putRow,Go.Sort.mapBlock,Go.Sort.ahead,XV,h1,Go.Sort.onCells]
 have gG:∀j m,ys[j]? =some m->w'.cell? ⟨(β 0).a,(β 0).c+j,none⟩=some (.int .i64 m):=by
  intro j m hj;have nr:j<ys.toArray.size:=by have:=(List.getElem?_eq_some_iff.1 hj).1;simpa using this
  have:=(Go.Sort.holds_grow (Value.int .i64) _ os (β 0).a (β 0).c ys.toArray (by rw[NS];exact hb) (Go.Sort.holds_putRow (Value.int .i64) (Go.Sort.ahead w n) (β 0).a (β 0).c zs.toArray ys.toArray hh (by simpa using hl))) j nr;rw[<-hw]at this;rw[this.1];have akM:j<ys.length:=by simpa using nr
  have:ys[j]=m:=by rw[cV akM]at hj;exact Option.some.inj hj
  simp[akM,this]
 have key:=cx.D (w':=w') 0 (.b false 0 t (ys.map (aa.c .i64))) (β 0) (by subst hw;rfl) (by subst hw;rfl) (by subst hw;rfl) ab (λb o8 eT=>aMh b o8 (λe=>eT ⟨rfl,hn⟩ e.symm)) rfl (λ_=>.inl ⟨⟨rfl,hn⟩,rfl⟩) ⟨_,_,_,_,rfl,bj _,λ_=>⟨rfl,by rw[hz,gR,gR,hl],rfl⟩⟩
  (λ_ _=>⟨ht,.inr ⟨hn,_,aMi,by
   rw[gR,hl];rw[hz,gR]at h2;exact h2,h3,by
   rw[<-h4];simp[Go.Sort.putCells],ahh h gG⟩⟩)
 have e1:bO (a_ [.b false 0 t x]) 0 (aj.b false 0 t (ys.map (aa.c .i64)))=a_ [.b false 0 t (ys.map (aa.c .i64))]:=by
  funext i
  cases i with
  |zero=>exact dt _ _ _
  |succ i=>rw[fj _ _ ab];rfl
 have e2:bO β 0 (β 0)=β:=by
  funext i
  by_cases hi:i=0
  ·subst hi;exact dt _ _ _
  ·exact fj _ _ hi
 rw[e1,e2]at key;exact⟨key.1,λm=>key.2.U⟩
end
def Mz:D2 (aJ 3):=⟨ae,ae,ae⟩
def aCW:(sE an 300 6 142 [.y 3 0 0 0] [.b false 0 3 []]).D=some (.a (.q []) [.b false 0 3 []]):=ae
def D3(n:Int):List Int->List Int
 | []=> [n]
 |m::r=>bif decide (n<=m)then n::m::r else m::D3 n r
def D4:List Int->List Int
 | []=> []
 |n::r=>D3 n (D4 r)
def WA(n:Int):∀l:List Int,(D3 n l).Perm (n::l)
 | []=>.refl _
 |m::r=>by
  rw[D3];cases decide (n<=m)with
  |true=>exact .refl _
  |false=>exact((WA n r).cons m).trans (.swap n m r)
def ahk:∀l:List Int,(D4 l).Perm l
 | []=>.refl _
 |n::r=>(WA n (D4 r)).trans ((ahk r).cons n)
def ahl(n:Int):∀l:List Int,l.Pairwise (· <= ·)->(D3 n l).Pairwise (· <= ·)
 | [],_=>List.pairwise_singleton ..
 |m::r,h=>by
  rw[List.pairwise_cons]at h;rw[D3];cases hd:decide (n<=m)with
  |true=>
   have hd:=ff hd;refine List.pairwise_cons.2 ⟨λx hx=> ?_,List.pairwise_cons.2 h⟩;rcases List.mem_cons.1 hx with rfl |hx
   ·exact hd
   ·exact Int.le_trans hd (h.1 x hx)
  |false=>
   have hd:=eS hd;refine List.pairwise_cons.2 ⟨λx hx=> ?_,ahl n r h.2⟩;rcases List.mem_cons.1 ((WA n r).mem_iff.1 hx)with rfl |hx
   ·omega
   ·exact h.1 x hx
def ahm:∀l:List Int,(D4 l).Pairwise (· <= ·)
 | []=>.nil
 |n::r=>ahl n _ (ahm r)
def aCX(l:List Int):(l.mergeSort λa b=>decide (a<=b))=D4 l:=by
 refine List.Perm.eq_of_pairwise (le:=λa b:Int=>a<=b) (λa b _ _ h1 h2=>Int.le_antisymm h1 h2) ?_ (ahm l) ((List.mergeSort_perm l _).trans (ahk l).symm);refine(List.pairwise_mergeSort (le:=λa b:Int=>decide (a<=b)) (λa b c h1 h2=> ?_) (λa b=> ?_) l).imp (λh=>ff h)
 ·exact aD (Int.le_trans (ff h1) (ff h2))
 ·rcases Int.le_total a b with h |h
  ·rw[aD h];rfl
  ·rw[aD h,Bool.or_true]
def ko(x:List aa):List aa:=(D4 (x.map aa.I)).map λn=>.c .i64 n
def Hu(x):ko x=((x.map aa.I).mergeSort λa b=>decide (a<=b)).map λn=>.c .i64 n:=by rw[aCX];rfl
def fC(x:List aa):List aa:=(Lib.compact (x.map aa.I)).map λn=>.c .i64 n
def Be(n:Nat):List aa:=List.replicate n (.c .i64 0)
def MA:aq| [.y 3 0 0 n],[.b false 0 3 x]=>.I (decide (x.length<=1000000) &&Nat.beq n x.length) (.g (.a (.q []) [.b false 0 3 (ko x)])) |_,_=>.d
def MB:aq| [.y 3 0 0 n],[.b false 0 3 x]=>.I (decide (x.length<=1000000) &&Nat.beq n x.length) (.g (.a (.K 3 0 0 0 (fC x).length) [.b false 0 3 (fC x++Be (x.length- (fC x).length))])) |_,_=>.d
def WB{f:FuncId}{fn:Func}(hf:P.funcs[f]? =some fn)(gu:(fn.name== "runtime.NumGoroutine")=false)(hb:fn.body.isSome=true)(bk w):(callFunc f bk).run P w=.ok (.enter f bk) w:=by
 have h3:fn.name≠ "runtime.NumGoroutine" :=by simpa using gu
 obtain⟨c,Ip⟩:=Option.isSome_iff_exists.1 hb;simp[callFunc,hf,h3,Ip]
def WC(zs:List Int):(zs.map (aa.c .i64)).map aa.I=zs:=by rw[HK];exact List.map_id'' (λ_=>rfl) _
def WD{l:AH.bd}(h:l.d=false):l.D=some ⟨l.a,l.c,none⟩:=by unfold AH.bd.D;rw[h]
def ahn:aH 142 MA:=by
 intro args ao out cM iL Z β w bk cx cN;unfold MA at cM;split at cM
 ·rename_i n x;obtain⟨h1,h2⟩:=aO cM;cases h2;rw[au]at h1;obtain rfl:=aV h1.2;have l8:x.length<=1000000:=ff h1.1;cases hx:x with
  |nil=>
   subst hx;have e0:ko []=[]:=by rfl
   rw[e0];exact AJ 6 _ _ _ _ aCW iL Z β w bk cx cN
  |cons v r=>
   rw[<-hx];obtain⟨zs,hz,lf,hb,fQ,hh⟩:=ahi Mz (by rw[hx];simp) cx;obtain⟨y,rfl,ro,g',t',vs,e,_,_,hk⟩:=CS cN;cases e;obtain⟨_,_,rfl⟩:=hk rfl;rw[WD lf];have hlen:x.length=zs.length:=by rw[hz,gR]
   rw[hlen];refine .inl ⟨WB func142 rfl rfl _ _,(aq' (β 0).a (β 0).c (β 0).b zs w hh hb ab).mono λe w' he=> ?_⟩;obtain⟨rfl,k,os,hw⟩:=he;obtain⟨c1,c2⟩:=ahj Mz cx hz aB lf hh hb hw;have e1:ko x=(zs.mergeSort λa b=>decide (a<=b)).map (aa.c .i64):=by rw[Hu,hz,WC]
   exact⟨_,_,β,rfl,by rw[e1];exact c1,by rw[e1];exact c2 _,#[],rfl,rfl⟩
 ·simp[af.D]at cM
def aCY{x}(hz:x=zs.map (aa.c .i64)):fC x++Be (x.length- (fC x).length)=(Lib.compact zs++List.replicate (zs.length- (Lib.compact zs).length) 0).map (aa.c .i64):=by unfold fC Be;rw[hz,WC,M3,List.map_replicate,gR,gR]
def aho:aH 143 MB:=by
 intro args ao out cM iL Z β w bk cx cN;unfold MB at cM;split at cM
 ·rename_i n x;obtain⟨h1,h2⟩:=aO cM;cases h2;rw[au]at h1;obtain rfl:=aV h1.2;have l8:x.length<=1000000:=ff h1.1;obtain⟨y,rfl,ro,g',t',vs,e,_,_,hk⟩:=CS cN;cases e;obtain⟨_,_,rfl⟩:=hk rfl;cases hx:x with
  |nil=>
   subst hx;refine .inl ⟨WB func143 rfl rfl _ _,(arc (β 0).D (β 0).b w).mono λe w' he=> ?_⟩;obtain⟨rfl,rfl⟩:=he;refine⟨_,_,β,rfl,cx,dZ.D,false,0,3,[],rfl,bj _,⟨_,_,rfl,ik _,λh=>absurd rfl h⟩,λ_=>⟨rfl,bj _,_,rfl,λhc=> ?_⟩⟩;obtain⟨_,h0 | ⟨hn,_⟩⟩:=cx.c 0
   ·have h0:=h0.2.2;rw[h0]at hc;exact absurd rfl hc
   ·rw[WD hn,Em,lW]
  |cons v r=>
   rw[<-hx];obtain⟨zs,hz,lf,hb,fQ,hh⟩:=ahi Mz (by rw[hx];simp) cx;rw[WD lf];have hlen:x.length=zs.length:=by rw[hz,gR]
   rw[hlen]at fQ;have hle:=aj2 zs;rw[hlen];refine .inl ⟨WB func143 rfl rfl _ _,(arb (β 0).a (β 0).c (β 0).b zs w hh ab fQ).mono λe w' he=> ?_⟩;obtain⟨rfl,k,hw⟩:=he;obtain⟨c1,c2⟩:=ahj Mz cx hz (ys:=Lib.compact zs++List.replicate (zs.length- (Lib.compact zs).length) 0) (os:= #[]) (by rw[eG,vg];omega) lf hh hb (hw.trans (Go.Sort.grow_empty _).symm);have e1:=aCY hz;rw[hlen]at e1;have e2:(fC x).length=(Lib.compact zs).length:=by unfold fC;rw[hz,WC,gR]
   refine⟨_,_,β,rfl,by rw[e1];exact c1,by rw[e1];exact c2 _,false,0,3,_,rfl,bj _,⟨_,_,by rw[e2],ab,λ_=>⟨_,_,rfl⟩⟩,λ_=>⟨rfl,?_,_,by rw[e2];rfl,λ_=>by rw[Em,lW]⟩⟩;rw[eG,gF];exact Nat.le_add_right _ _
 ·simp[af.D]at cM
def aCZ:=aR 132 RR ae
def aC0:=aR 176 Kd ae
def ahp:=aR 133 Dd ae
def aC1:=aR 177 RS ae
def aC2:=aR 138 RT ae
def ahq:=aR 98 nM ae
def aC3:=aR 56 RU ae
def aC4(nm ps rs bo ct):(aI (ay an (aL [(27,wz)]) RR aK) false f132 [aG nm ps rs bo ct] []).D=((af.g (.a (.p (eY (bF [aG nm ps rs bo ct])==0)) []))).D:=ae
def ahr:aH 132 y7:=bI (aA yJ aQ) aCZ λp q r h=>by
 unfold y7 at h;split at h
 ·rename_i nm ps rs bo ct;refine(aC4 nm ps rs bo ct).trans (bS ?_ h);show some (aC.a (.p (eY (bF [aG nm ps rs bo ct])==0)) [])=_;rw[agT];rfl
 ·cases h
def ahs:FuncId->aq:=aL [(216,Wq),(217,Wp),(142,MA),(143,MB)]
def aC5(nm ps rs bo ct k no nn ty ca ar b e):(aI (ay an ahs Kd (cG an ahs Kd 4 4).d) false f176 [aG nm ps rs bo ct,dL k no nn ty ca ar b e] []).D=((letI ai:=aG nm ps rs bo ct;letI ak:=ko [ah (mZ ai true bo ct no).fst,ah (mZ ai false bo ct no).fst];letI aw:af aC:=.c (decide (ak.length<=1000000) &&Nat.beq 2 ak.length) (al (.d 3 (List.take (fC ak).length (List.drop 0 (fC ak++Be (ak.length- (fC ak).length))))) []) .d;af.c (k==8) (al (.d 3 []) []) (.c (k==9) aw (.c (k==10) aw (al (.d 3 [ah #[(y9 ai bo ct no).fst][0]!]) [])))):af aC).D:=ae
def aht(x):(ko x).length=x.length:=by rw[Hu];rw[gR,ajm,gR]
def aC6{x v}(h:v∈ko x):∃u∈x,v=.c .i64 u.I:=by rw[Hu]at h;obtain⟨n,hn,rfl⟩:=List.mem_map.1 h;have hn:=List.mem_mergeSort.1 hn;obtain⟨u,hu,rfl⟩:=List.mem_map.1 hn;exact⟨u,hu,rfl⟩
def ahu{n:Int}(h:n∈Lib.compact zs):n∈zs:=by unfold Lib.compact Lib.compactUpTo at h;obtain⟨j,hj,rfl⟩:=List.mem_map.1 h;have nr:=List.mem_range.1 (List.mem_filter.1 hj).1;simp[nr]
def aC7{x v}(h:v∈fC x):∃u∈x,v=.c .i64 u.I:=by unfold fC at h;obtain⟨n,hn,rfl⟩:=List.mem_map.1 h;obtain⟨u,hu,rfl⟩:=List.mem_map.1 (ahu hn);exact⟨u,hu,rfl⟩
def aC8(x):(fC x).length<=x.length:=by unfold fC Lib.compact Lib.compactUpTo;rw[gR,gR];refine eb (Nk _ _) ?_;simp
def qE(x:List aa):List aa:=fC (ko x)
def aC9{x v}(h:v∈qE x):∃u∈x,v=.c .i64 u.I:=by obtain⟨u,hu,rfl⟩:=aC7 h;obtain⟨u',hu',rfl⟩:=aC6 hu;exact⟨u',hu',rfl⟩
def ahv(x):(qE x).length<=x.length:=eb (aC8 _) (Nat.le_of_eq (aht x))
def ahw(y z):List.take (fC y).length (List.drop 0 (fC y++z))=fC y:=by rw[oc,M7]
def n_(f:aa)(bo:List aa)(ct k no:Int):List aa:=bif k==8 then[]else bif k==9 then[.c .i64 (mZ f true bo ct no).1,.c .i64 (mZ f false bo ct no).1]else bif k==10 then[.c .i64 (mZ f true bo ct no).1,.c .i64 (mZ f false bo ct no).1]else[.c .i64 (y9 f bo ct no).1]
def aC_(x:List aa):aC:=.a (.d 3 (qE x)) []
def MC:aq| [.u [.h nm,.d 101 ps,.c .i64 rs,.d 97 bo,.c .i64 ct],.u [.c .i64 k,.c .i64 no,.h _,.c .i64 _,.h _,.d 177 _,.d 97 _,.d 97 _]],[]=>.g (.a (.d 3 (qE (n_ (aG nm ps rs bo ct) bo ct k no))) []) |_,_=>.d
def ahx:aH 176 MC:=dN aW c_ (aA aCD (aA aCC (aA ahn (aA aho aQ)))) aC0 rfl (sH 4) λp q r h=>by
 unfold MC at h;split at h
 ·rename_i nm ps rs bo ct k no nn ty ca ar b e;refine(aC5 nm ps rs bo ct k no nn ty ca ar b e).trans (bS ?_ h);show _=some (aC_ (n_ (aG nm ps rs bo ct) bo ct k no));have t2:∀a b:aa,(decide ((ko [a,b]).length<=1000000) &&Nat.beq 2 (ko [a,b]).length)=true:=λa b=>by rw[aht];rfl
  refine bK (λ_=>ae) λ_=>bK (λ_=>aZ (t2 _ _) (by rw[ahw];rfl)) λ_=>bK (λ_=>aZ (t2 _ _) (by rw[ahw];rfl)) λ_=>ae
 ·cases h
def Hv:FuncId->aq:=aL [(176,MC),(53,DY)]
def aC'(nm ps rs bo ct x n s):(vY gD Hv Dd aK 0 0 (.q [ah (bZ s),dV s]) [.e 0 0,.e 1 0] [gE nm ps rs bo ct,az [.y 46 2 0 n],.b false 0 46 x]).D=((af.c (Nat.beq 46 46 &&true &&decide (0<=bZ s) &&decide (bZ s<(↑n:Int))) (.g ((.b,[.e 0 0,.e 1 0],[az [.h nm,.d 101 ps,ah rs,.d 97 bo,ah ct],az [.y 46 2 0 n],.b false 0 46 (x.set (bZ s).toNat (.d 3 (qE (n_ (aG nm ps rs bo ct) bo ct (s.D 0).I (s.D 1).I))))]))) .d)).D:=ae
def D5(f:aa)(bo:List aa)(ct:Int)(x:List aa)(c:List dq):List aa:=x.set (bZ (fK c)).toNat (.d 3 (qE (n_ f bo ct (dp (fK c)) (bZ (fK c)))))
def MD(f:aa)(bo:List aa)(ct:Int)(x:List aa):List aa:=(ba 20 [] bo).foldl (D5 f bo ct) x
def ahy{α β γ:Type}(g:α->γ->α):∀(l:List γ)(a:α),kg (λa c=>(.inr (g a c):β⊕α)) l a=.inr (l.foldl g a)
 | [],a=>rfl
 |c::r,a=>ahy g r (g a c)
def WE(f bo)(ct:Int)(x)(c:List dq):(D5 f bo ct x c).length=x.length:=qN ..
def aDa(hp:bF [aG nm ps rs bo ct]=true)(x)(hx:(x.length:Int)=ct+1):bw gD Hv Dd 0 3 (.q ((ba 20 [] bo).map gQ)::[.e 0 0,.e 1 0]) [gE nm ps rs bo ct,.a false [.y 46 2 0 x.length],.b false 0 46 x] (.b,[.e 0 0,.e 1 0],[gE nm ps rs bo ct,.a false [.y 46 2 0 x.length],.b false 0 46 (MD (aG nm ps rs bo ct) bo ct x)]):=by
 obtain⟨hn,hl,hs,hc,_⟩:=n9 (mv hp);have key:=C5 (α:=List aa) (β:=Unit) (rJ ahp) 0 (key:=3) (m:=0) ae ae (cv (C:=Hv)) gQ (λ_=> [.e 0 0,.e 1 0]) (λy=> [gE nm ps rs bo ct,.a false [.y 46 2 0 x.length],.b false 0 46 y]) (λy c=>.inr (D5 (aG nm ps rs bo ct) bo ct y c)) (λ_=>(.c,[],[])) (λy=>y.length=x.length) (ba 20 [] bo) ?_ x rfl
 ·rw[ahy]at key;exact key
 ·intro y c hc' hy;obtain⟨f,r,rfl⟩:=pH 20 [] bo c hc';refine C4 (aC' nm ps rs bo ct y x.length f.1) (dB ?_ (jI rfl (by rw[WE];exact hy)));have:=y8 _ 0 hs _ hc';have e:qD (f::r)=bZ f.1:=rfl;exact V4 ab ab
def WG:dk:=λm_ key vs os=>match vs,os with
 | [.q items,.e 0 0,.e 1 0],[.a false [.h nm,.d 101 ps,.c .i64 rs,.d 97 bo,.c .i64 ct],.a false [.y 46 2 0 n],.b false 0 46 x]=>
  .I (ij (items=(ba 20 [] bo).map gQ) &&bF [aG nm ps rs bo ct] &&ij ((x.length:Int)=ct+1) &&Nat.beq n x.length &&Nat.beq m_ 0 &&Nat.beq key 3) (.g (.b,[.e 0 0,.e 1 0],[gE nm ps rs bo ct,.a false [.y 46 2 0 n],.b false 0 46 (MD (aG nm ps rs bo ct) bo ct x)]))
 |_,_=>.d
def aDb:cJ gD Hv Dd WG:=by
 intro m_ key vs os r h;unfold WG at h;split at h
 ·rename_i items nm ps rs bo ct n x;obtain⟨h1,h2⟩:=aO h;simp only[au,bC]at h1;obtain⟨⟨⟨⟨⟨hi,hp⟩,hx⟩,hn⟩,hm⟩,hk⟩:=h1;obtain rfl:=aV hm;obtain rfl:=aV hk;obtain rfl:=aV hn;obtain rfl:=rI hi;cases h2;exact aDa hp x (rI hx)
 ·simp[af.D]at h
def qF(f:aa)(bo:List aa)(ct:Int):List aa:=MD f bo ct (List.replicate (ct+1).toNat (.d 3 []))
def WH:aq| [.u [.h nm,.d 101 ps,.c .i64 rs,.d 97 bo,.c .i64 ct]],[]=>.I (bF [aG nm ps rs bo ct]) (.g (.a (.d 46 (qF (aG nm ps rs bo ct) bo ct)) [])) |_,_=>.d
def aDc(nm ps rs bo ct):(aI (ay gD Hv Dd WG) false f133 [aG nm ps rs bo ct] []).D=((letI ai:=List.replicate (i64.wrap (ct+1)).toNat (.d 3 []);af.c (true &&decide (0<=i64.wrap (ct+1)) &&decide (i64.wrap (ct+1)=i64.wrap (ct+1)) &&decide (i64.wrap (ct+1)<=(↑(nat_lit 4294967296):Int))) (.c (Nat.beq 101 101 &&Nat.beq 97 97 &&bF [aG nm ps rs bo ct]) (.c (ij (List.map gQ (ba 20 [] bo)=List.map gQ (ba 20 [] bo)) &&bF [aG nm ps rs bo ct] &&ij ((↑ai.length:Int)=ct+1) &&ai.length.beq ai.length &&Nat.beq 0 0 &&Nat.beq 3 3) (al (.d 46 (MD (aG nm ps rs bo ct) bo ct ai)) []) .d) .d) .d):af aC).D:=ae
def aDd:aH 133 WH:=dN aW Hk (aA ahx (aA Mq aQ)) (rJ ahp) rfl aDb λp q r h=>by
 unfold WH at h;split at h
 ·rename_i nm ps rs bo ct;obtain⟨hp,h2⟩:=aO h;obtain⟨_,hl,_,jQ,_⟩:=n9 (mv hp);have hw:i64.wrap (ct+1)=ct+1:=by simp[IntKind.wrap,IntKind.bits,IntKind.signed];omega
  refine(aDc nm ps rs bo ct).trans (bS (aZ ?_ (aZ hp (aZ ?_ ?_))) h2)
  ·rw[hw,aD (show(0:Int)<=ct+1 from ab),aD rfl,aD (show ct+1<=((4294967296:Nat):Int)from ab)];rfl
  ·rw[rH rfl,hp,rH (by rw[vg,hw];omega),gq];rfl
  ·rw[hw];rfl
 ·cases h
def D6(d:AH.dQ)(i:Nat):Code:=match(dj d.D)[i]? with |some (AH.fT.e _ b)=>b |_=>.skip
def th:FuncId->aq:=aL [(132,y7),(133,WH)]
def ahz(fl y o n k):(mN (ay an th nM aK) 0 4416 (D6 nM 0) [.y 4 0 0 n,.d 46 fl,.y 3 1 0 k] [.b false 0 4 o,.b false 0 3 y]).D=((letI ai:=(↑k:Int);letI ak:=i64.wrap (ai-1);letI aw:=y.getD ak.toNat .m;letI aS:=Nat.beq 4 4 &&true &&decide (0<=aw.I) &&decide (aw.I<(↑n:Int));letI bx:=ak.toNat-Int.toNat (0:Int);letI bX:=fl.getD aw.I.toNat .m;letI cI:=List.take bx (List.drop (Int.toNat (0:Int)) y)++bX.U;af.c (ai==0) (.g ((.c,[.y 4 0 0 n],[.b false 0 4 o]))) (.c (Nat.beq 3 3 &&true &&decide (0<=i64.wrap (ai-1)) &&decide (i64.wrap (ai-1)<ai)) (.c (decide ((0:Int)<=0) &&decide (0<=i64.wrap (ai-1)) &&decide (i64.wrap (ai-1)<=ai)) (.c aS (.c ((o.getD aw.I.toNat .m).b_) (.g ((.d 0,[.y 4 0 0 n,.d 46 fl,.K 3 1 0 0 bx],[.b false 0 4 o,.b false 0 3 y]))) (.c aS (.c (decide (0<=aw.I) &&decide (aw.I<(↑fl.length:Int))) (.c (decide (ak.toNat-Int.toNat (0:Int)+bX.U.length<=4294967296) &&decide (0<y.length)) (.g ((.d 0,[.y 4 0 0 n,.d 46 fl,.y 3 1 0 cI.length],[.b false 0 4 (o.set aw.I.toNat (.p true)),.b false 0 3 cI]))) .d) .d) .d)) .d) .d) .d)):af (aU×List aa×List aj)).D:=ae
def ahA(fl y o n k):(mN (ay an th nM aK) 0 4416 (D6 nM 0) [.y 4 0 0 n,.d 46 fl,.K 3 1 0 0 k] [.b false 0 4 o,.b false 0 3 y]).D=((letI ai:=(↑k:Int);letI ak:=i64.wrap (ai-1);letI aw:=y.getD (0+ak.toNat) .m;letI aS:=Nat.beq 4 4 &&true &&decide (0<=aw.I) &&decide (aw.I<(↑n:Int));letI bx:=ak.toNat-Int.toNat (0:Int);letI bX:=fl.getD aw.I.toNat .m;letI cI:=List.take bx (List.drop 0 y)++bX.U;af.c (ai==0) (.g ((.c,[.y 4 0 0 n],[.b false 0 4 o]))) (.c (Nat.beq 3 3 &&true &&decide (0<=i64.wrap (ai-1)) &&decide (i64.wrap (ai-1)<ai)) (.c (decide ((0:Int)<=0) &&decide (0<=i64.wrap (ai-1)) &&decide (i64.wrap (ai-1)<=ai)) (.c aS (.c ((o.getD aw.I.toNat .m).b_) (.g ((.d 0,[.y 4 0 0 n,.d 46 fl,.K 3 1 0 0 bx],[.b false 0 4 o,.b false 0 3 y]))) (.c aS (.c (decide (0<=aw.I) &&decide (aw.I<(↑fl.length:Int))) (.c (decide (ak.toNat-Int.toNat (0:Int)+bX.U.length<=4294967296) &&decide (0<y.length)) (.g ((.d 0,[.y 4 0 0 n,.d 46 fl,.y 3 1 0 cI.length],[.b false 0 4 (o.set aw.I.toNat (.p true)),.b false 0 3 cI]))) .d) .d) .d)) .d) .d) .d)):af (aU×List aa×List aj)).D:=ae
def ahB{cd:Bool}(hf:f=aG nm ps rs bo ct)(hp:bF [f]=true)(h0:0<=no)(h1:no<=ct):0<=(mZ f cd bo ct no).1/\(mZ f cd bo ct no).1<=ct:=by
 subst hf;obtain⟨hn,hl,hs,hc,_⟩:=n9 (mv hp);have h5:(0:Int)<=ct:=ab;unfold mZ;rw[hp];cases he:(dC no (ba 20 [] bo)).isEmpty with
 |true=>exact⟨j1 _,h5⟩
 |false=>
  have hm:=A8 no _ he;obtain⟨⟨s,b,i,r,e1,e2,e3,e4,e5,e6,e7⟩,_⟩:=D1 20 [] bo hn _ hm;have hb:=Wk hn hs 25 _ hm;rw[Mr he,<-hc]at hb;have de:lq bo no=s:=by unfold lq;rw[e1];rfl
  have key:0<=(Hr cd bo ct no).1/\(Hr cd bo ct no).1<=ct:=by
   unfold Hr;rw[de];have kid:∀(l:List aa),(∀j(h:j<l.length),(l[j],l,j)::dC no (ba 20 [] bo)∈ba 20 [] bo)->decide ((l.length:Int)>0)=true->0<=bZ (l.getD (Int.toNat 0) .m)/\bZ (l.getD (Int.toNat 0) .m)<=ct:=λl hk hd=>by have hd:=ff hd;have h3:0<l.length:=ab;have h4:=y8 _ 0 hs _ (hk 0 h3);have h5:qD ((l[0],l,0)::dC no (ba 20 [] bo))=bZ l[0]:=rfl;rw[show Int.toNat 0=0 from rfl,dD,cV h3];show 0<=bZ l[0]/\bZ l[0]<=ct;omega
   cases cd with
   |true=>
    simp only[cond_true];cases hd:decide (((aP s).length:Int)>0)with
    |true=>exact kid _ e6 hd
    |false=>
     cases dp s==10 with
     |true=>exact⟨h0,h1⟩
     |false=>exact hb
   |false=>
    simp only[ve];cases hd:decide (((bf s).length:Int)>0)with
    |true=>exact kid _ e7 hd
    |false=>exact hb
  simp only[cond_true,ve];cases dp (lq bo no) !=9 with
  |true=>
   cases dp (lq bo no) !=10 with
   |true=>exact⟨j1 _,h5⟩
   |false=>exact key
  |false=>exact key
def aDe(hf:f=aG nm ps rs bo ct)(hp:bF [f]=true):0<=(y9 f bo ct no).1/\(y9 f bo ct no).1<=ct:=by
 subst hf;obtain⟨hn,hl,hs,hc,_⟩:=n9 (mv hp);have h5:(0:Int)<=ct:=ab;unfold y9;rw[hp];cases he:(dC no (ba 20 [] bo)).isEmpty with
 |true=>exact⟨j1 _,h5⟩
 |false=>have hb:=Wk hn hs 25 _ (A8 no _ he);rw[Mr he,<-hc]at hb;exact hb
def pJ(ct:Int)(v:aa):Prop:=v=.c .i64 v.I/\0<=v.I/\v.I<=ct
def ahC{k:Int}(hf:f=aG nm ps rs bo ct)(hp:bF [f]=true)(h0:0<=no)(h1:no<=ct):(∀v∈qE (n_ f bo ct k no),pJ ct v)/\(qE (n_ f bo ct k no)).length<=2:=by
 have raw:(∀v∈n_ f bo ct k no,pJ ct v)/\(n_ f bo ct k no).length<=2:=by
  have e1:=ahB (cd:=true) hf hp h0 h1;have e2:=ahB (cd:=false) hf hp h0 h1;have e3:=aDe (no:=no) hf hp;have two:(∀v∈ [aa.c .i64 (mZ f true bo ct no).1,.c .i64 (mZ f false bo ct no).1],pJ ct v)/\[aa.c .i64 (mZ f true bo ct no).1,.c .i64 (mZ f false bo ct no).1].length<=2:=by
   refine⟨λv hv=> ?_,aB⟩;rcases List.mem_cons.1 hv with rfl |hv
   ·exact⟨rfl,e1⟩
   ·rcases List.mem_cons.1 hv with rfl |hv
    ·exact⟨rfl,e2⟩
    ·cases hv
  unfold n_;cases k==8 with
  |true=>exact⟨λv hv=>(by cases hv),aB⟩
  |false=>
   cases k==9 with
   |true=>exact two
   |false=>
    cases k==10 with
    |true=>exact two
    |false=>
     refine⟨λv hv=> ?_,aB⟩;rcases List.mem_cons.1 hv with rfl |hv
     ·exact⟨rfl,e3⟩
     ·cases hv
 refine⟨λv hv=> ?_,eb (ahv _) raw.2⟩;obtain⟨u,hu,rfl⟩:=aC9 hv;exact⟨rfl,(raw.1 u hu).2⟩
def rM{Φ:α->Prop}{b:Bool}{t e:af α}(h:b=true)(h1:dK t Φ):dK (.c b t e) Φ:=by subst h;exact h1
section
variable{P:Program}{g:eH}{C:FuncId->aq}{d:AH.dQ}{f:FuncId}{L:Nat->Nat->List aa->List aj->af (aU×List aa×List aj)}
def aDf{Q:α->Prop}{sh:α->aU×List aa×List aj}(ok:iB P g f d)(i:Nat){l key:Nat}(hb:(dj d.D)[i]? =some (.e l (D6 d i)))(gr:kD l (D6 d i)=key)(hL:cJ g C d L){vs os}
  (he:dK (mN (ay g C d L) m key (D6 d i) vs os) λy=>∃r,Q r/\match y with | (.d l',vs',os')=>l'=l/\bw g C d m key vs' os' (sh r) |y=>y=sh r):∃r,Q r/\bw g C d m key vs os (sh r):=by
 obtain⟨⟨e,vs',os'⟩,h1,r,h2,h3⟩:=he;subst gr;refine⟨r,h2,?_⟩;cases e with
 |d l'=>exact bw.V ok.a (eg hb) hL h1 h3
 |_=>exact bw.V ok.a (eg hb) hL h1 h3
end
structure Bf(ct:Int)(fl:List aa):Prop where
 a:(fl.length:Int)=ct+1
 b:∀i,i<fl.length->(∀u∈(fl.getD i .m).U,pJ ct u)/\(fl.getD i .m).U.length<=2
def uV(o:List aa):Nat:=(o.filter λv=> !v.b_).length
def ahD:∀(o:List aa)(i:Nat),i<o.length->(o.getD i .m).b_=false->uV (o.set i (.p true))+1=uV o
 | [],i,h,_=>by cases h
 |v::r,0,_,h=>by have h:v.b_=false:=h;show((aa.p true::r).filter λv=> !v.b_).length+1=((v::r).filter λv=> !v.b_).length;rw[vc,vc,h];rfl
 |v::r,i+1,hi,h=>by
  have ih:=ahD r i (by simpa using hi) h;show((v::r.set i (.p true)).filter λv=> !v.b_).length+1=((v::r).filter λv=> !v.b_).length;unfold uV at ih;rw[vc,vc];cases v.b_ with
  |true=>exact ih
  |false=>simp only[u_,↓reduceIte,eM];omega
def Bg(o:List aa):aU×List aa×List aj:=(.c,[.y 4 0 0 o.length],[.b false 0 4 o])
def oT(fl:List aa):Nat->List aa->List aa->Nat->List aa
 |0,o,_,_=>o
 |f+1,o,y,k=>bif (k:Int)==0 then o else
   bif (o.getD (y.getD (k-1) .m).I.toNat .m).b_ then oT fl f o y (k-1-0)else oT fl f (o.set (y.getD (k-1) .m).I.toNat (.p true)) (List.take (k-1-0) (List.drop 0 y)++(fl.getD (y.getD (k-1) .m).I.toNat .m).U) (List.take (k-1-0) (List.drop 0 y)++(fl.getD (y.getD (k-1) .m).I.toNat .m).U).length
def WI{b:Bool}{x y:α}(h:b=true):(bif b then x else y)=x:=by subst h;rfl
def D7{b:Bool}{x y:α}(h:b=false):(bif b then x else y)=y:=by subst h;rfl
def ahE{y}{f:Nat}(h:((k:Int)==0)=true):oT fl f o y k=o:=by
 cases f with
 |zero=>rfl
 |succ f=>rw[oT,WI h]
def aDg(hf:Bf ct fl)(jQ:ct<=1000):∀(M:Nat)(o y:List aa)(k:Nat)(sub:Bool),3*uV o+k<=M->M<=100000->(o.length:Int)=ct+1->k<=y.length->(sub=false->k=y.length)->(∀j,j<k->pJ ct (y.getD j .m))->
  ∃o':List aa,(o'.length=o.length/\∀f,M<=f->oT fl f o y k=o')/\bw an th nM 0 4416 [.y 4 0 0 o.length,.d 46 fl,(bif sub then .K 3 1 0 0 k else .y 3 1 0 k)] [.b false 0 4 o,.b false 0 3 y] (Bg o'):=by
 intro M;induction M using Nat.strongRecOn with
 |ind M ih=>
  intro o y k sub hM aNg ho hk mF hy;have nq:bP=9223372036854775807:=rfl;have body:∀(t:af (aU×List aa×List aj))(e1:((mN (ay an th nM aK) 0 4416 (D6 nM 0) [.y 4 0 0 o.length,.d 46 fl,(bif sub then .K 3 1 0 0 k else .y 3 1 0 k)] [.b false 0 4 o,.b false 0 3 y]).D=t.D)),
    dK t (λy'=>∃r:List aa,(r.length=o.length/\∀f,M<=f->oT fl f o y k=r)/\match y' with | (.d l',vs',os')=>l'=0/\bw an th nM 0 4416 vs' os' (Bg r) |y'=>y'=Bg r)->∃o':List aa,(o'.length=o.length/\∀f,M<=f->oT fl f o y k=o')/\bw an th nM 0 4416 [.y 4 0 0 o.length,.d 46 fl,(bif sub then .K 3 1 0 0 k else .y 3 1 0 k)] [.b false 0 4 o,.b false 0 3 y] (Bg o'):=λt e1 h=>
   aDf (Q:=λr:List aa=>r.length=o.length/\∀f,M<=f->oT fl f o y k=r) ahq 0 ae ae cv (dK.U e1 h)
  cases mJ:((k:Int)==0)with
  |true=>
   cases sub with
   |false=>exact body _ (ahz fl y o o.length k) (.D (λ_=>.I ⟨o,⟨rfl,λf _=>ahE mJ⟩,rfl⟩) λh=>(by rw[mJ]at h;cases h))
   |true=>exact body _ (ahA fl y o o.length k) (.D (λ_=>.I ⟨o,⟨rfl,λf _=>ahE mJ⟩,rfl⟩) λh=>(by rw[mJ]at h;cases h))
  |false=>
   have pS:0<k:=by
    have:¬(k:Int)=0:=by simpa using mJ
    omega
   have ew:i64.wrap ((k:Int)-1)=(k:Int)-1:=ep ab ab;have en:((k:Int)-1).toNat=k-1:=ab;obtain⟨p1,p2,p3⟩:=hy (k-1) ab;have e0:Int.toNat 0=0:=rfl;have c1:(decide ((0:Int)<=(k:Int)-1) &&decide ((k:Int)-1<(k:Int)))=true:=by rw[aD (show(0:Int)<=(k:Int)-1 from ab),aD (show(k:Int)-1<(k:Int)from ab)];rfl
   have c1':(Nat.beq (3:TypeId) (3:TypeId) &&true &&decide ((0:Int)<=(k:Int)-1) &&decide ((k:Int)-1<(k:Int)))=true:=by rw[aD (show(0:Int)<=(k:Int)-1 from ab),aD (show(k:Int)-1<(k:Int)from ab)];rfl
   have c2:(decide ((0:Int)<=0) &&decide ((0:Int)<=(k:Int)-1) &&decide ((k:Int)-1<=(k:Int)))=true:=by rw[aD (show(0:Int)<=(k:Int)-1 from ab),aD (show(k:Int)-1<=(k:Int)from ab)];rfl
   have c3:(Nat.beq (4:TypeId) (4:TypeId) &&true &&decide ((0:Int)<=(y.getD (k-1) .m).I) &&decide ((y.getD (k-1) .m).I<(o.length:Int)))=true:=by rw[aD p2,aD (show(y.getD (k-1) .m).I<(o.length:Int)from ab)];rfl
   have c4:(decide ((0:Int)<=(y.getD (k-1) .m).I) &&decide ((y.getD (k-1) .m).I<(fl.length:Int)))=true:=by rw[aD p2,aD (show(y.getD (k-1) .m).I<(fl.length:Int)by rw[hf.a];omega)];rfl
   obtain⟨q1,q2⟩:=hf.b (y.getD (k-1) .m).I.toNat (by have:=hf.a;omega);have c5:(decide (k-1-0+(fl.getD (y.getD (k-1) .m).I.toNat .m).U.length<=4294967296) &&decide (0<y.length))=true:=by rw[aD (show k-1-0+(fl.getD (y.getD (k-1) .m).I.toNat .m).U.length<=4294967296 from ab),aD (show 0<y.length from ab)];rfl
   have tH:∀f,M<=f->∃g,f=g+1:=λf hf=>⟨f-1,ab⟩
   have go1:∃r:List aa,(r.length=o.length/\∀f,3*uV o+(k-1)<=f->oT fl f o y (k-1)=r)/\bw an th nM 0 4416 [.y 4 0 0 o.length,.d 46 fl,.K 3 1 0 0 (k-1-0)] [.b false 0 4 o,.b false 0 3 y] (Bg r):=ih (3*uV o+(k-1)) ab o y (k-1) true (bj _) ab ho ab (λh=>by cases h) (λj hj=>hy j ab);have hz:∀j,j<(List.take (k-1-0) (List.drop 0 y)++(fl.getD (y.getD (k-1) .m).I.toNat .m).U).length->pJ ct ((List.take (k-1-0) (List.drop 0 y)++(fl.getD (y.getD (k-1) .m).I.toNat .m).U).getD j .m):=λj hj=>by
    have key:∀v∈List.take (k-1-0) (List.drop 0 y)++(fl.getD (y.getD (k-1) .m).I.toNat .m).U,pJ ct v:=λv hm=>by
     rcases List.mem_append.1 hm with hm |hm
     ·rw[oc,M9]at hm;obtain⟨i,hi,e⟩:=M8 hm;rw[pM]at hi;have:=hy i ab;rw[dD,cV (show i<y.length from ab)]at this;rw[List.getElem_take]at e;rw[<-e];exact this
     ·exact q1 _ hm
    rw[dD,cV hj];exact key _ (mE hj)
   have go2:(o.getD (y.getD (k-1) .m).I.toNat .m).b_=false->∃r:List aa,(r.length=o.length/\∀f,M<=f+1->oT fl f (o.set (y.getD (k-1) .m).I.toNat (.p true)) (List.take (k-1-0) (List.drop 0 y)++(fl.getD (y.getD (k-1) .m).I.toNat .m).U) (List.take (k-1-0) (List.drop 0 y)++(fl.getD (y.getD (k-1) .m).I.toNat .m).U).length=r)/\bw an th nM 0 4416 [.y 4 0 0 o.length,.d 46 fl,.y 3 1 0 (List.take (k-1-0) (List.drop 0 y)++(fl.getD (y.getD (k-1) .m).I.toNat .m).U).length] [.b false 0 4 (o.set (y.getD (k-1) .m).I.toNat (.p true)),.b false 0 3 (List.take (k-1-0) (List.drop 0 y)++(fl.getD (y.getD (k-1) .m).I.toNat .m).U)] (Bg r):=λhb=>by
    have aNh:=ahD o (y.getD (k-1) .m).I.toNat ab hb;have hlen:(List.take (k-1-0) (List.drop 0 y)++(fl.getD (y.getD (k-1) .m).I.toNat .m).U).length<=k-1+2:=by rw[eG,pM];omega
    have hs:(o.set (y.getD (k-1) .m).I.toNat (aa.p true)).length=o.length:=qN ..;obtain⟨r,⟨h1,h3⟩,h2⟩:=ih (3*uV (o.set (y.getD (k-1) .m).I.toNat (.p true))+(List.take (k-1-0) (List.drop 0 y)++(fl.getD (y.getD (k-1) .m).I.toNat .m).U).length) ab (o.set (y.getD (k-1) .m).I.toNat (.p true)) _ _ false (bj _) ab (by rw[hs];exact ho) (bj _) (λ_=>rfl) hz;rw[hs]at h1 h2;exact⟨r,⟨h1,λf hf=>h3 f ab⟩,h2⟩
   cases sub with
   |false=>
    have bg:=ahz fl y o o.length k;rw[ew,en,e0]at bg;refine body _ bg (.D (λh=>(by rw[mJ]at h;cases h)) λ_=>rM c1' (rM c2 (rM c3 (.D (λhb=> ?_) λhb=>rM c3 (rM c4 (rM c5 ?_))))))
    ·obtain⟨r,⟨h1,h3⟩,h2⟩:=go1;refine .I ⟨r,⟨h1,λf hf=> ?_⟩,rfl,h2⟩;obtain⟨g,rfl⟩:=tH f hf;rw[oT,D7 mJ,WI hb];exact h3 g ab
    ·obtain⟨r,⟨h1,h3⟩,h2⟩:=go2 hb;refine .I ⟨r,⟨h1,λf hf=> ?_⟩,rfl,h2⟩;obtain⟨g,rfl⟩:=tH f hf;rw[oT,D7 mJ,D7 hb];exact h3 g hf
   |true=>
    have bg:=ahA fl y o o.length k;simp only[gF]at bg;rw[ew,en,e0]at bg;refine body _ bg (.D (λh=>(by rw[mJ]at h;cases h)) λ_=>rM c1' (rM c2 (rM c3 (.D (λhb=> ?_) λhb=>rM c3 (rM c4 (rM c5 ?_))))))
    ·obtain⟨r,⟨h1,h3⟩,h2⟩:=go1;refine .I ⟨r,⟨h1,λf hf=> ?_⟩,rfl,h2⟩;obtain⟨g,rfl⟩:=tH f hf;rw[oT,D7 mJ,WI hb];exact h3 g ab
    ·obtain⟨r,⟨h1,h3⟩,h2⟩:=go2 hb;refine .I ⟨r,⟨h1,λf hf=> ?_⟩,rfl,h2⟩;obtain⟨g,rfl⟩:=tH f hf;rw[oT,D7 mJ,D7 hb];exact h3 g hf
def aDh(hf:f=aG nm ps rs bo ct)(hp:bF [f]=true){x}(hx:Bf ct x)(hc:c∈ba 20 [] bo):Bf ct (D5 f bo ct x c):=by
 subst hf;obtain⟨hn,hl,hs,jQ,_⟩:=n9 (mv hp);have h1:=y8 _ 0 hs _ hc;obtain⟨g,r,rfl⟩:=pH 20 [] bo c hc;have h2:qD (g::r)=bZ (fK (g::r)):=rfl;refine⟨by rw[WE];exact hx.a,λi hi=> ?_⟩;rw[WE]at hi;unfold D5;by_cases he:(bZ (fK (g::r))).toNat=i
 ·rw[he,dD,By,if_pos rfl,if_pos hi];exact ahC rfl hp ab ab
 ·rw[dD,By,if_neg he,<-dD];exact hx.b i hi
def ahF(hf:f=aG nm ps rs bo ct)(hp:bF [f]=true):Bf ct (qF f bo ct):=by
 have h0:(0:Int)<=ct:=by subst hf;obtain⟨_,_,_,jQ,_⟩:=n9 (mv hp);omega
 have key:∀(l:List (List dq))(x:List aa),(∀c∈l,c∈ba 20 [] bo)->Bf ct x->Bf ct (l.foldl (D5 f bo ct) x):=by
  intro l;induction l with
  |nil=>intro x _ hx;exact hx
  |cons c r ih=>intro x hl hx;exact ih _ (λc hc=>hl c (by simp[hc])) (aDh hf hp hx (hl c aB))
 refine key _ _ (λc hc=>hc) ⟨by rw[vg];omega,λi hi=> ?_⟩;rw[vg]at hi;rw[dD,ajn,if_pos hi];exact⟨λu hu=>(by cases hu),ik _⟩
def Bh(fl o y:List aa):List aa:=oT fl (3*uV o+y.length) o y y.length
def WJ(fl o y:List aa)(n k:Nat):Prop:=k=y.length/\n=o.length/\y.length<=2/\∃ct:Int,0<=ct/\ct<=1000/\Bf ct fl/\(o.length:Int)=ct+1/\∀j,j<y.length->pJ ct (y.getD j .m)
def aDi(o):uV o<=o.length:=Nk _ _
def ahG{y}(h:WJ fl o y n k):(Bh fl o y).length=o.length/\bw an th nM 0 4416 [.y 4 0 0 o.length,.d 46 fl,.y 3 1 0 y.length] [.b false 0 4 o,.b false 0 3 y] (Bg (Bh fl o y)):=by obtain⟨_,_,hy,ct,h0,h1,h2,h3,h4⟩:=h;have ho:=aDi o;obtain⟨r,⟨g1,g2⟩,g3⟩:=aDg h2 h1 (3*uV o+y.length) o y y.length false (bj _) ab h3 (bj _) (λ_=>rfl) h4;have e:Bh fl o y=r:=g2 _ (bj _);rw[e];exact⟨g1,g3⟩
def WK:dk:=λm_ key vs os=>match vs,os with
 | [.y 4 0 0 n,.d 46 fl,.y 3 1 0 k],[.b false 0 4 o,.b false 0 3 y]=>.I (ij (WJ fl o y n k) &&Nat.beq m_ 0 &&Nat.beq key 4416) (.g (.c,[.y 4 0 0 (Bh fl o y).length],[.b false 0 4 (Bh fl o y)]))
 |_,_=>.d
def aDj:cJ an th nM WK:=by
 intro m_ key vs os r h;unfold WK at h;split at h
 ·rename_i n fl k o y;obtain⟨h1,h2⟩:=aO h;simp only[au]at h1;obtain⟨⟨hi,hm⟩,hk⟩:=h1;obtain rfl:=aV hm;obtain rfl:=aV hk;have hi:=rI hi;have h3:=(ahG hi).2;obtain⟨rfl,rfl,_⟩:=hi;cases h2;exact h3
 ·simp[af.D]at h
def aDk(nm ps rs bo ct):(aI (ay an th nM WK) false f98 [aG nm ps rs bo ct] []).D=((letI ai:=List.replicate (i64.wrap (ct+1)).toNat (.p false);letI ak:=Nat.beq 4 4 &&true &&decide ((0:Int)<=0) &&decide (0<(↑ai.length:Int));letI aw:=Int.toNat (0:Int);letI aS:=qF (aG nm ps rs bo ct) bo ct;letI bx:=aS.getD aw .m;letI bX:=ai.set aw (.p true);letI cI:=[]++bx.U;af.c (!bF [aG nm ps rs bo ct]) (al (.d 4 []) []) (.c (true &&decide (0<=i64.wrap (ct+1)) &&decide (i64.wrap (ct+1)=i64.wrap (ct+1)) &&decide (i64.wrap (ct+1)<=(↑(nat_lit 4294967296):Int))) (.c (bF [aG nm ps rs bo ct]) (.c ak (.c ((ai.getD aw .m).b_) .d (.c ak (.c (decide ((0:Int)<=0) &&decide (0<(↑aS.length:Int))) (.c (decide ((i64.wrap ((↑(nat_lit 1):Int)-1)).toNat-Int.toNat (0:Int)+bx.U.length<=4294967296) &&decide (0<1)) (.c (ij (WJ aS bX cI ai.length cI.length) &&Nat.beq 0 0 &&Nat.beq 4416 4416) (al (.d 4 (Bh aS bX cI)) []) .d) .d) .d) .d)) .d) .d) .d)):af aC).D:=ae
def aDl(nm ps rs bo ct no):(aI (ay an (aL [(132,y7)]) RS aK) false f177 [aG nm ps rs bo ct,ah no] []).D=((af.c (!bF [aG nm ps rs bo ct]) (.g (ia 2)) (.c (!decide (no<0)) (.c (decide (no>ct)) (.g (ia 3)) (.g (ia 0))) (.g (ia 3))))).D:=ae
def Hw(ct:Int):List aa:=(List.replicate (i64.wrap (ct+1)).toNat (aa.p false)).set (Int.toNat 0) (aa.p true)
def wY(f:aa)(bo:List aa)(ct:Int):List aa:=Bh (qF f bo ct) (Hw ct) ([]++((qF f bo ct).getD (Int.toNat 0) aa.m).U)
def WL:aq| [.u [.h nm,.d 101 ps,.c .i64 rs,.d 97 bo,.c .i64 ct]],[]=>.c (bF [aG nm ps rs bo ct]) (.g (.a (.d 4 (wY (aG nm ps rs bo ct) bo ct)) [])) (.g (.a (.d 4 []) [])) |_,_=>.d
def aDm:aH 98 WL:=dN aW c_ (aA ahr (aA aDd aQ)) ahq rfl aDj λp q r h=>by
 unfold WL at h;split at h
 ·rename_i nm ps rs bo ct;refine(aDk nm ps rs bo ct).trans (bS ?_ h);cases hp:bF [aG nm ps rs bo ct]with
  |false=>rfl
  |true=>
   have j5:=ahF rfl hp;obtain⟨hn,hl,hs,hc,_⟩:=n9 (mv hp);have ew:i64.wrap (ct+1)=ct+1:=ep ab ab;have hlen:((List.replicate (ct+1).toNat (aa.p false)).length:Int)=ct+1:=by rw[vg];omega
   have akN:=j5.a;obtain⟨m1,m2⟩:=j5.b 0 ab;have g0:(List.replicate (ct+1).toNat (aa.p false)).getD (Int.toNat 0) aa.m=aa.p false:=by rw[show Int.toNat 0=0 from rfl,dD,ajn,if_pos (show 0<(ct+1).toNat from ab)];rfl
   unfold wY Hw;rw[ew];have c1:(Nat.beq (4:TypeId) (4:TypeId) &&true &&decide ((0:Int)<=0) &&decide ((0:Int)<((List.replicate (ct+1).toNat (aa.p false)).length:Int)))=true:=by rw[hlen,aD (show(0:Int)<ct+1 from ab)];rfl
   refine kK rfl (aZ ?_ (aZ rfl (aZ c1 (kK (by rw[g0];rfl) (aZ c1 (aZ ?_ (aZ ?_ (aZ ?_ rfl))))))))
   ·rw[aD (show(0:Int)<=ct+1 from ab),aD rfl,aD (show ct+1<=((4294967296:Nat):Int)from ab)];rfl
   ·rw[akN,aD (show(0:Int)<ct+1 from ab)];rfl
   ·rw[show Int.toNat 0=0 from rfl,aD ?_]
    ·rfl
    ·show 0-0+_<=4294967296;omega
   ·rw[rH ?_]
    ·rfl
    ·refine⟨rfl,by rw[qN],m2,ct,ab,ab,j5,by rw[qN];exact hlen,λj hj=> ?_⟩;have hj:j<((qF (aG nm ps rs bo ct) bo ct).getD 0 aa.m).U.length:=hj;show pJ ct (((qF (aG nm ps rs bo ct) bo ct).getD 0 aa.m).U.getD j .m);rw[dD (l:=((qF (aG nm ps rs bo ct) bo ct).getD 0 aa.m).U),cV hj];exact m1 _ (mE hj)
 ·cases h
def za(f:aa)(ct no:Int):Int:=bif !bF [f]then 2 else bif !decide (no<0)then(bif decide (no>ct)then 3 else 0)else 3
def WM:aq| [.u [.h nm,.d 101 ps,.c .i64 rs,.d 97 bo,.c .i64 ct],.c .i64 no],[]=>.g (.a (.c .i64 (za (aG nm ps rs bo ct) ct no)) []) |_,_=>.d
def aDn:aH 177 WM:=bI (aA ahr aQ) aC1 λp q r h=>by
 unfold WM at h;split at h
 ·rename_i nm ps rs bo ct no;refine(aDl nm ps rs bo ct no).trans (bS ?_ h);show _=some (ia (za (aG nm ps rs bo ct) ct no));exact bK (λ_=>rfl) λ_=>bK (λ_=>bK (λ_=>rfl) λ_=>rfl) λ_=>rfl
 ·cases h
def aDo(nm ps rs bo ct no):(aI (ay an (aL [(177,WM),(136,Wo),(176,MC)]) RT aK) false f138 [aG nm ps rs bo ct,ah no] []).D=((letI ai:=aG nm ps rs bo ct;letI ak:=fg ai bo no;af.c (za ai ct no !=0) (al (.q [.d 3 [],ah (za ai ct no)]) []) (.c (ak.snd !=0) (al (.q [.d 3 [],ah 0]) []) (al (.q [.d 3 (qE (n_ ai bo ct (ak.fst.D 0).I (ak.fst.D 1).I)),ah 0]) []))):af aC).D:=ae
def aDp(nm ps rs bo ct):(aI (ay an (aL [(98,WL)]) RU aK) false f56 [aG nm ps rs bo ct] []).D=((letI ai:=wY (aG nm ps rs bo ct) bo ct;letI ak:=(↑ai.length:Int);af.c (bF [aG nm ps rs bo ct]) (.c (decide (ak>0)) (.c (decide (0<=i64.wrap (ak-1)) &&decide (i64.wrap (ak-1)<ak)) (al (.p (ai.getD (i64.wrap (ak-1)).toNat .m).b_) []) .d) (al (.p false) [])) (al (.p false) [])):af aC).D:=ae
def aDq(hp:bF [aG nm ps rs bo ct]=true):((wY (aG nm ps rs bo ct) bo ct).length:Int)=ct+1:=by
 have j5:=ahF rfl hp;obtain⟨hn,hl,hs,hc,_⟩:=n9 (mv hp);have ew:i64.wrap (ct+1)=ct+1:=ep ab ab;have akN:=j5.a;obtain⟨m1,m2⟩:=j5.b 0 ab;have ho:((Hw ct).length:Int)=ct+1:=by unfold Hw;rw[ew,qN,vg];omega
 have h1:=(ahG (fl:=qF (aG nm ps rs bo ct) bo ct) (o:=Hw ct) (y:=[]++((qF (aG nm ps rs bo ct) bo ct).getD (Int.toNat 0) aa.m).U) ⟨rfl,rfl,m2,ct,ab,ab,j5,ho,λj hj=>by
  have hj:j<((qF (aG nm ps rs bo ct) bo ct).getD 0 aa.m).U.length:=hj;show pJ ct (((qF (aG nm ps rs bo ct) bo ct).getD 0 aa.m).U.getD j .m);rw[dD (l:=((qF (aG nm ps rs bo ct) bo ct).getD 0 aa.m).U),cV hj];exact m1 _ (mE hj)⟩).1
 unfold wY;omega
def ME(f:aa)(bo:List aa)(ct:Int):Bool:=bif bF [f]then(bif decide (((wY f bo ct).length:Int)>0)then((wY f bo ct).getD (i64.wrap (((wY f bo ct).length:Int)-1)).toNat aa.m).b_ else false)else false
def aDr(b:Bool):aC:=.a (.p b) []
def WN:aq| [.u [.h nm,.d 101 ps,.c .i64 rs,.d 97 bo,.c .i64 ct]],[]=>.g (.a (.p (ME (aG nm ps rs bo ct) bo ct)) []) |_,_=>.d
def aDs:aH 56 WN:=bI (aA aDm aQ) aC3 λp q r h=>by
 unfold WN at h;split at h
 ·rename_i nm ps rs bo ct;refine(aDp nm ps rs bo ct).trans (bS ?_ h);show _=some (aDr (ME (aG nm ps rs bo ct) bo ct));refine bK (λhp=>bK (λh1=>aZ ?_ rfl) λ_=>rfl) λ_=>rfl;have h2:=aDq hp;obtain⟨hn,hl,hs,hc,_⟩:=n9 (mv hp);have:=ag0 (l:=wY (aG nm ps rs bo ct) bo ct) ab (by have:bP=9223372036854775807:=rfl;omega);rw[this.1];exact this.2
 ·cases h
def ti(f:aa)(bo:List aa)(ct no:Int):List aa×Int:=bif za f ct no !=0 then([],za f ct no)else bif (fg f bo no).2 !=0 then([],0)else(qE (n_ f bo ct ((fg f bo no).1.D 0).I ((fg f bo no).1.D 1).I),0)
def aDt(r:List aa×Int):aC:=.a (.q [.d 3 r.1,.c .i64 r.2]) []
def ahH:aq| [.u [.h nm,.d 101 ps,.c .i64 rs,.d 97 bo,.c .i64 ct],.c .i64 no],[]=>.g (.a (.q [.d 3 (ti (aG nm ps rs bo ct) bo ct no).1,.c .i64 (ti (aG nm ps rs bo ct) bo ct no).2]) []) |_,_=>.d
def aDu:aH 138 ahH:=bI (aA aDn (aA ag9 (aA ahx aQ))) aC2 λp q r h=>by
 unfold ahH at h;split at h
 ·rename_i nm ps rs bo ct no;refine(aDo nm ps rs bo ct no).trans (bS ?_ h);show _=some (aDt (ti (aG nm ps rs bo ct) bo ct no));exact bK (λ_=>rfl) λ_=>bK (λ_=>rfl) λ_=>rfl
 ·cases h
def WO:=aR 58 ur ae
def aDv:=aR 29 Ke ae
def ahI:=aR 52 De ae
def aDw:=aR 55 RV ae
def aDx:=aR 57 RW ae
def ahJ:=aR 13 Az ae
def aDy:=aR 5 RX ae
def aDz:=aR 14 FZ ae
def aDA:=aR 6 sM ae
def aDB:=aR 9 Kf ae
def aDC:=aR 7 Kg ae
def aDD:=aR 11 Kh ae
def aDE:=aR 8 Ki ae
def MF:∀(m:Nat)(l:List aa)(c:List dq)(n:Int),0<=n->n<=200->(bn m l n).1=true->∀p∈ba m c l,lj (fK p)=true
 |0,l,c,n,_,_,_,p,h=>by cases h
 |m+1,l,c,n,h0,h1,h2,p,h=>by
  have key:∀(r:List aa)(i:Nat)(n:Int),0<=n->n<=200->(eZ (bn m) r n).1=true->p∈jq (ba m) c l i r->lj (fK p)=true:=by
   intro r;induction r with
   |nil=>intro i n _ _ _ h;cases h
   |cons s r ih=>
    intro i n h0 h1 h2 h;have pY:eZ (bn m) (s::r) n=if n+1>200\/lj s=false then(false,n+1)else
     if(bn m (aP s) (n+1)).1=false then(false,(bn m (aP s) (n+1)).2)else
     if(bn m (bf s) (bn m (aP s) (n+1)).2).1=false then(false,(bn m (bf s) (bn m (aP s) (n+1)).2).2)else eZ (bn m) r (bn m (bf s) (bn m (aP s) (n+1)).2).2:=rfl
    rw[pY]at h2;by_cases c1:n+1>200\/lj s=false
    ·rw[if_pos c1]at h2;cases h2
    rw[if_neg c1]at h2;by_cases c2:(bn m (aP s) (n+1)).1=false
    ·rw[if_pos c2]at h2;cases h2
    rw[if_neg c2]at h2;by_cases c3:(bn m (bf s) (bn m (aP s) (n+1)).2).1=false
    ·rw[if_pos c3]at h2;cases h2
    rw[if_neg c3]at h2;have t2:(bn m (aP s) (n+1)).1=true:=by simpa using c2
    have t3:(bn m (bf s) (bn m (aP s) (n+1)).2).1=true:=by simpa using c3
    have o6:n+1<=200:=by have:¬n+1>200:=λh=>c1 (.inl h);omega
    have g1:=kM m (aP s) (n+1) ab o6;have g1':=g1.2.2 t2;have g2:=kM m (bf s) (bn m (aP s) (n+1)).2 ab g1'.1;have g2':=g2.2.2 t3;rw[jq]at h;rcases List.mem_cons.1 h with rfl |h
    ·cases e:lj s with
     |true=>exact e
     |false=>exact absurd (.inr e) c1
    rcases List.mem_append.1 h with h |h
    ·exact MF m _ _ (n+1) ab o6 t2 p h
    rcases List.mem_append.1 h with h |h
    ·exact MF m _ _ _ ab g1'.1 t3 p h
    ·exact ih (i+1) _ ab g2'.1 h2 h
  exact key l 0 n h0 h1 h2 h
def ahK(hp:bF [aG nm ps rs bo ct]=true):∀p∈ba 20 [] bo,(dG (fK p)).length<=8:=by intro p hm;have h:=mv hp;unfold kN at h;rw[au,au]at h;have h1:fm nm ps rs bo=true:=h.1.1;unfold fm at h1;rw[au]at h1;have h2:=MF 20 bo [] 0 ab ab h1.2 p hm;exact(TC h2).1
def oa(sg:List aa):Bool:=decide (sg.length<=bP) &&sg.all pF
def ahL(sg vs:List aa)(r:Int)(s:aa):Int:=Hd sg vs r (dp s) (bZ s) (iD s) (eI s) (jJ s) (dG s)
def ahM(nm:List UInt8)(ps:List aa)(rs:Int)(bo:List aa)(ct:Int)(sg vs:List aa):List aj:=[gE nm ps rs bo ct,.a false [.d 48 sg],.a false [.d 72 vs]]
def Hx:FuncId->aq:=aL [(54,V1),(53,DY)]
def aDF(nm ps rs bo ct sg vs s):(vY gD Hx De aK 3 0 (.q [ah (bZ s),dV s]) jK [gE nm ps rs bo ct,az [.d 48 sg],az [.d 72 vs],az [ah 0],az [ah 0]]).D=((letI ai:List aa:=[.e 0 0,.e 1 0,.e 2 0,.e 3 0,.e 4 0];letI ak:List aa:=[.h nm,.d 101 ps,ah rs,.d 97 bo,ah ct];af.c (decide ((s.D 5).U.length<=1000) &&decide (vs.length<=cg) && (decide (sg.length<=cg) &&sg.all pF)) (.c (Hd sg vs rs (s.D 0).I (s.D 1).I (s.D 3).I (s.D 2).bJ (s.D 4).bJ (s.D 5).U !=0) (.g ((.c,ai,[az ak,az [.d 48 sg],az [.d 72 vs],cu (bZ s),cu (Hd sg vs rs (s.D 0).I (s.D 1).I (s.D 3).I (s.D 2).bJ (s.D 4).bJ (s.D 5).U)]))) (.g ((.b,ai,[az ak,az [.d 48 sg],az [.d 72 vs],cu 0,cu 0])))) .d):af (aU×List aa×List aj)).D:=ae
def aDG:=aR 137 qj ae
def aDH:=aR 310 RY ae
def aDI:=aR 311 RZ ae
def ahN:=aR 100 AA ae
def WQ:=aR 139 yt ae
def aDJ(k no nm ty ca ar bo el):(aI (ay an (aL []) RY aK) false f310 [dL k no nm ty ca ar bo el] []).D=((af.c (decide ((↑ar.length:Int)>0)) (.g (ia 1)) (.g (ia 2)))).D:=ae
def aDK(k no nm ty ca ar bo el):(aI (ay an (aL []) RZ aK) false f311 [dL k no nm ty ca ar bo el] []).D=((af.g (aC.a (aa.c IntKind.i64 (1:Int)) []))).D:=ae
def WR:aq| [.u [.c .i64 _,.c .i64 _,.h _,.c .i64 _,.h _,.d 177 ar,.d 97 _,.d 97 _]],[]=>.c (decide ((ar.length:Int)>0)) (.g (.a (.c .i64 1) [])) (.g (.a (.c .i64 2) [])) |_,_=>.d
def aDL:aH 310 WR:=bI aQ aDH λp q r h=>by
 unfold WR at h;split at h
 ·exact(aDJ _ _ _ _ _ _ _ _).trans h
 ·cases h
def WS:aq| [.u [.c .i64 _,.c .i64 _,.h _,.c .i64 _,.h _,.d 177 _,.d 97 _,.d 97 _]],[]=>.g (.a (.c .i64 1) []) |_,_=>.d
def aDM:aH 311 WS:=bI aQ aDI λp q r h=>by
 unfold WS at h;split at h
 ·exact(aDK _ _ _ _ _ _ _ _).trans h
 ·cases h
def tj:FuncId->aq:=aL [(141,G_),(310,WR),(311,WS)]
def aDN(l no nm ty ca ar bo el):(aI (ay an tj qj aK) false f137 [.d 72 l,dL 0 no nm ty ca ar bo el] []).D=((af.c (decide (l.length<=cg)) (.c (!!(bc (dz nm) l 0).isSome) (al (.q [ah 0,ah 0]) []) (al (.q [ah 0,ah 0]) [])) .d)).D:=ae
def aDO(l no nm ty ca ar bo el):(aI (ay an tj qj aK) false f137 [.d 72 l,dL 1 no nm ty ca ar bo el] []).D=((af.c (decide (l.length<=cg)) (.c (!!(bc (dz nm) l 0).isSome) (.c (decide ((↑ar.length:Int)>0)) (al (.q [ah (gm (bc (dz nm) l 0)),ah 1]) []) (al (.q [ah (gm (bc (dz nm) l 0)),ah 2]) [])) (al (.q [ah 0,ah 0]) [])) .d)).D:=ae
def aDP(l no nm ty ca ar bo el):(aI (ay an tj qj aK) false f137 [.d 72 l,dL 2 no nm ty ca ar bo el] []).D=((af.c (decide (l.length<=cg)) (.c (!!(bc (dz nm) l 0).isSome) (al (.q [ah (gm (bc (dz nm) l 0)),ah 1]) []) (al (.q [ah 0,ah 0]) [])) .d)).D:=ae
def aDQ(l no nm ty ca ar bo el):(aI (ay an tj qj aK) false f137 [.d 72 l,dL 3 no nm ty ca ar bo el] []).D=((af.c (decide (l.length<=cg)) (.c (!!(bc (dz nm) l 0).isSome) (al (.q [ah 0,ah 0]) []) (al (.q [ah 0,ah 0]) [])) .d)).D:=ae
def aDR(l no nm ty ca ar bo el):(aI (ay an tj qj aK) false f137 [.d 72 l,dL 4 no nm ty ca ar bo el] []).D=((af.c (decide (l.length<=cg)) (.c (!!(bc (dz nm) l 0).isSome) (al (.q [ah (gm (bc (dz nm) l 0)),ah 1]) []) (al (.q [ah 0,ah 0]) [])) .d)).D:=ae
def aDS(l no nm ty ca ar bo el):(aI (ay an tj qj aK) false f137 [.d 72 l,dL 5 no nm ty ca ar bo el] []).D=((af.c (decide (l.length<=cg)) (.c (!!(bc (dz nm) l 0).isSome) (al (.q [ah (gm (bc (dz nm) l 0)),ah 1]) []) (al (.q [ah 0,ah 0]) [])) .d)).D:=ae
def aDT(l no nm ty ca ar bo el):(aI (ay an tj qj aK) false f137 [.d 72 l,dL 6 no nm ty ca ar bo el] []).D=((af.c (decide (l.length<=cg)) (.c (!!(bc (dz nm) l 0).isSome) (al (.q [ah 0,ah 0]) []) (al (.q [ah 0,ah 0]) [])) .d)).D:=ae
def aDU(l no nm ty ca ar bo el):(aI (ay an tj qj aK) false f137 [.d 72 l,dL 7 no nm ty ca ar bo el] []).D=((af.c (decide (l.length<=cg)) (.c (!!(bc (dz nm) l 0).isSome) (.c (nm==[]) (al (.q [ah 0,ah 0]) []) (al (.q [ah (gm (bc (dz nm) l 0)),ah 1]) [])) (al (.q [ah 0,ah 0]) [])) .d)).D:=ae
def aDV(l no nm ty ca ar bo el):(aI (ay an tj qj aK) false f137 [.d 72 l,dL 8 no nm ty ca ar bo el] []).D=((af.c (decide (l.length<=cg)) (.c (!!(bc (dz nm) l 0).isSome) (al (.q [ah 0,ah 0]) []) (al (.q [ah 0,ah 0]) [])) .d)).D:=ae
def aDW(l no nm ty ca ar bo el):(aI (ay an tj qj aK) false f137 [.d 72 l,dL 9 no nm ty ca ar bo el] []).D=((af.c (decide (l.length<=cg)) (.c (!!(bc (dz nm) l 0).isSome) (al (.q [ah 0,ah 0]) []) (al (.q [ah 0,ah 0]) [])) .d)).D:=ae
def aDX(l no nm ty ca ar bo el):(aI (ay an tj qj aK) false f137 [.d 72 l,dL 10 no nm ty ca ar bo el] []).D=((af.c (decide (l.length<=cg)) (.c (!!(bc (dz nm) l 0).isSome) (al (.q [ah 0,ah 0]) []) (al (.q [ah 0,ah 0]) [])) .d)).D:=ae
def MG(k:Int)(nm:List UInt8)(ar:List aa):Int:=bif k==1 then(bif decide ((ar.length:Int)>0)then 1 else 2)else bif k==2 ||k==4 ||k==5 then 1 else bif k==7 then(bif nm==[]then 0 else 1)else 0
def na(l:List aa)(k:Int)(nm:List UInt8)(ar:List aa):Int×Int:=bif (bc (dz nm) l 0).isSome && (MG k nm ar !=0)then(gm (bc (dz nm) l 0),MG k nm ar)else(0,0)
def ahO:aq
 | [.d 72 l,.u [.c .i64 k,.c .i64 _,.h nm,.c .i64 _,.h _,.d 177 ar,.d 97 _,.d 97 _]],[]=>.I (decide (l.length<=bP) &&decide (0<=k) &&decide (k<=10)) (.g (.a (.q [.c .i64 (na l k nm ar).1,.c .i64 (na l k nm ar).2]) []))
 |_,_=>.d
def aDY(q:Int×Int):aC:=.a (.q [.c .i64 q.1,.c .i64 q.2]) []
def aDZ:aH 137 ahO:=bI (aA Vy (aA aDL (aA aDM aQ))) aDG λargs ao out h=>by
 unfold ahO at h;split at h
 ·rename_i l k no nm ty ca ar bo el;obtain⟨h1,h2⟩:=aO h;simp only[au,bC]at h1;obtain⟨⟨hl,h3⟩,h4⟩:=h1;have hl':decide (l.length<=9223372036854775807)=true:=aD hl;have hk:k=0\/k=1\/k=2\/k=3\/k=4\/k=5\/k=6\/k=7\/k=8\/k=9\/k=10:=ab;have h2:some (aDY (na l k nm ar))=some out:=h2;rw[<-h2];unfold na MG;rcases hk with rfl |rfl |rfl |rfl |rfl |rfl |rfl |rfl |rfl |rfl |rfl
  ·refine(aDN l no nm ty ca ar bo el).trans (aZ hl' ?_);cases(bc (dz nm) l 0).isSome<;>rfl
  ·refine(aDO l no nm ty ca ar bo el).trans (aZ hl' ?_);cases(bc (dz nm) l 0).isSome<;>cases decide ((ar.length:Int)>0)<;>rfl
  ·refine(aDP l no nm ty ca ar bo el).trans (aZ hl' ?_);cases(bc (dz nm) l 0).isSome<;>rfl
  ·refine(aDQ l no nm ty ca ar bo el).trans (aZ hl' ?_);cases(bc (dz nm) l 0).isSome<;>rfl
  ·refine(aDR l no nm ty ca ar bo el).trans (aZ hl' ?_);cases(bc (dz nm) l 0).isSome<;>rfl
  ·refine(aDS l no nm ty ca ar bo el).trans (aZ hl' ?_);cases(bc (dz nm) l 0).isSome<;>rfl
  ·refine(aDT l no nm ty ca ar bo el).trans (aZ hl' ?_);cases(bc (dz nm) l 0).isSome<;>rfl
  ·refine(aDU l no nm ty ca ar bo el).trans (aZ hl' ?_);cases(bc (dz nm) l 0).isSome<;>cases nm==[]<;>rfl
  ·refine(aDV l no nm ty ca ar bo el).trans (aZ hl' ?_);cases(bc (dz nm) l 0).isSome<;>rfl
  ·refine(aDW l no nm ty ca ar bo el).trans (aZ hl' ?_);cases(bc (dz nm) l 0).isSome<;>rfl
  ·refine(aDX l no nm ty ca ar bo el).trans (aZ hl' ?_);cases(bc (dz nm) l 0).isSome<;>rfl
 ·cases h
def Hy:FuncId->aq:=aL [(140,V7),(141,G_),(142,MA),(143,MB)]
def ahP(l x k no nm ty ca ar bo el n len i):(cB (ay an Hy AA aK) 0 3 (cq AA 0) [.d 72 l,.e 0 0,.y 3 1 0 n,.d 177 ar,ah len,ah i] [az [ah k,ah no,.h nm,ah ty,.h ca,.d 177 ar,.d 97 bo,.d 97 el],.b false 0 3 x]).D=((letI ai:=bB (ar.getD i.toNat .m);letI ak:List aa:=[ah k,ah no,.h nm,ah ty,.h ca,.d 177 ar,.d 97 bo,.d 97 el];af.c (decide (i<len)) (.c (decide (0<=i) &&decide (i<(↑ar.length:Int))) (.c (decide (l.length<=1000000)) (.c (decide (x.length+(pG l ai).length<=4294967296)) (.g ((.b,[.d 72 l,.e 0 0,.y 3 1 0 (x++pG l ai).length,.d 177 ar,ah len,ah (i64.wrap (i+1))],[az ak,.b false 0 3 (x++pG l ai)]))) .d) .d) .d) (.g ((.a 0,[.d 72 l,.e 0 0,.y 3 1 0 n],[az ak,.b false 0 3 x])))):af (aU×List aa×List aj)).D:=ae
def WT:∀(x:List aa)(a:Nat×List aa),match cR rG x a with | .inl _=>True | .inr b=>b.2.length<=a.2.length+x.length
 | [],a=>bj _
 |v::r,a=>by
  rw[cR];unfold rG;cases decide (v.I>0)with
  |true=>
   have:=WT r (a.1+1,a.2++ [.c .i64 a.1]);show match cR rG r (a.1+1,a.2++ [.c .i64 a.1])with | .inl _=>True | .inr b=>b.2.length<=a.2.length+(v::r).length
   cases hg:cR rG r (a.1+1,a.2++ [.c .i64 a.1])with
   |inl u=>trivial
   |inr b=>rw[hg]at this;simp only[eG,eM,rQ]at this⊢;omega
  |false=>
   have:=WT r (a.1+1,a.2);show match cR rG r (a.1+1,a.2)with | .inl _=>True | .inr b=>b.2.length<=a.2.length+(v::r).length
   cases hg:cR rG r (a.1+1,a.2)with
   |inl u=>trivial
   |inr b=>rw[hg]at this;simp only[eM]at this⊢;omega
def ahQ(l e):(pG l e).length<=l.length:=by
 unfold pG;cases eY (lM e) !=0 with
 |true=>exact ik _
 |false=>show(tg (km l 20 e (List.replicate (l.length:Int).toNat (.c .i64 0)))).length<=l.length;have h:=WT (km l 20 e (List.replicate (l.length:Int).toNat (.c .i64 0))) (0,[]);have hlen:=(Hg l 20 e (List.replicate (l.length:Int).toNat (.c .i64 0))).trans (by rw[vg,dE]:_=l.length);unfold tg;obtain⟨b,hb⟩:=Hh (km l 20 e (List.replicate (l.length:Int).toNat (.c .i64 0))) (0,[]);rw[hb]at h⊢;have h:b.2.length<=0+(km l 20 e (List.replicate (l.length:Int).toNat (.c .i64 0))).length:=h;show b.2.length<=l.length;omega
def ahR(l:List aa)(x:List aa)(e:aa):Unit⊕List aa:=.inr (x++pG l (bB e))
def kq(l:List aa):List aa->List aa->List aa
 | [],x=>x
 |e::r,x=>kq l r (x++pG l (bB e))
def ahS(l):∀(r x:List aa),cR (ahR l) r x=.inr (kq l r x)
 | [],x=>rfl
 |e::r,x=>by rw[cR];exact ahS l r _
def WU(l):∀(r x:List aa),(kq l r x).length<=x.length+r.length*l.length
 | [],x=>Nat.le_add_right _ _
 |e::r,x=>by have:=WU l r (x++pG l (bB e));have h2:=ahQ l (bB e);rw[eG]at this;rw[kq,eM,lu];omega
def WV(k no:Int)(nm:List UInt8)(ty:Int)(ca:List UInt8)(ar bo el x:List aa):List aj:=[.a false [.c .i64 k,.c .i64 no,.h nm,.c .i64 ty,.h ca,.d 177 ar,.d 97 bo,.d 97 el],.b false 0 3 x]
def ahT(l:List aa)(k no:Int)(nm:List UInt8)(ty:Int)(ca:List UInt8)(ar bo el x:List aa):aU×List aa×List aj:=(.a 0,[.d 72 l,.e 0 0,.y 3 1 0 x.length],WV k no nm ty ca ar bo el x)
def aD0(l)(k no:Int)(nm)(ty:Int)(ca ar bo el)(hl:l.length<=1000)(ha:ar.length<=1000):bw an Hy AA 0 3 [.d 72 l,.e 0 0,.y 3 1 0 0,.d 177 ar,.c .i64 (ar.length:Int),.c .i64 0] (WV k no nm ty ca ar bo el []) (ahT l k no nm ty ca ar bo el (kq l ar [])):=by
 have key:=pz (β:=Unit) ahN 0 (key:=3) (m:=0) ae ae (cv (C:=Hy)) (λn (x:List aa)=> [.d 72 l,.e 0 0,.y 3 1 0 x.length,.d 177 ar,.c .i64 (ar.length:Int),.c .i64 n]) (λ_ x=>WV k no nm ty ca ar bo el x) (ahR l) (λ_=>(.c,[],[])) (ahT l k no nm ty ca ar bo el) (λn x=>x.length<=n*l.length) ar [] (ik _) ?_ ?_
 ·rw[ahS]at key;exact key
 ·intro n x hn hI;have h2:=ahQ l (bB (ar.getD n .m));have h3:n*l.length<=1000*1000:=zl ab hl;refine oF (ahP l x k no nm ty ca ar bo el x.length (ar.length:Int) n) (dB (mm hn) (dB (jk hn) (dB (aD (show l.length<=1000000 from ab)) (dB (aD ?_) (jI ?_ ?_)))))
  ·show x.length+(pG l (bB (ar.getD n .m))).length<=4294967296;omega
  ·rw[mn hn (by have:bP=9223372036854775807:=rfl;omega)];rfl
  ·show(x++pG l (bB (ar.getD n .m))).length<=(n+1)*l.length;rw[eG,lu];omega
 ·intro x _;have e:=ahP l x k no nm ty ca ar bo el x.length (ar.length:Int) ar.length;rw[mP]at e;exact⟨e,rfl⟩
def WW:dk:=λm_ key vs os=>match vs,os with
 | [.d 72 l,.e 0 0,.y 3 1 0 0,.d 177 ar2,.c .i64 len,.c .i64 0],[.a false [.c .i64 k,.c .i64 no,.h nm,.c .i64 ty,.h ca,.d 177 ar,.d 97 bo,.d 97 el],.b false 0 3 []]=>
  .I (ij (ar2=ar) &&decide (len=(ar.length:Int)) &&decide (l.length<=1000) &&decide (ar.length<=1000) &&Nat.beq m_ 0 &&Nat.beq key 3) (.g (.a 0,[.d 72 l,.e 0 0,.y 3 1 0 (kq l ar []).length],[.a false [.c .i64 k,.c .i64 no,.h nm,.c .i64 ty,.h ca,.d 177 ar,.d 97 bo,.d 97 el],.b false 0 3 (kq l ar [])]))
 |_,_=>.d
def aD1:cJ an Hy AA WW:=by
 intro m_ key vs os r h;unfold WW at h;split at h
 ·rename_i l ar2 len k no nm ty ca ar bo el;obtain⟨h1,h2⟩:=aO h;simp only[au,bC,aNx]at h1;obtain⟨⟨⟨⟨⟨e1,rfl⟩,hl⟩,ha⟩,rfl⟩,rfl⟩:=h1;obtain rfl:=rI e1;cases h2;exact aD0 l k no nm ty ca ar2 bo el hl ha
 ·simp[af.D]at h
def aD2(l k no nm ty ca ar bo el):(aI (ay an Hy AA WW) false f100 [.d 72 l,dL k no nm ty ca ar bo el] []).D=((letI ai:=(↑ar.length:Int);letI ak:=kq l ar [];letI aw:=kq l ar []++ [aa.c .i64 (gm (bc (dz nm) l 0))];letI aS:=ko aw;letI bx:=ko ak;letI bX:af aC:=.c (decide (ak.length<=1000000) &&ak.length.beq ak.length) (.c (decide (bx.length<=1000000) &&ak.length.beq bx.length) (al (.d 3 (List.take (fC bx).length (List.drop 0 (fC bx++Be (bx.length- (fC bx).length))))) []) .d) .d;af.c (ij (ar=ar) &&decide (ai=ai) &&decide (l.length<=1000) &&decide (ar.length<=1000) &&Nat.beq 0 0 &&Nat.beq 3 3) (.c (decide (l.length<=cg)) (.c ((bc (dz nm) l 0).isSome) (.c (k==3) (.c (decide (ak.length+1<=4294967296)) (.c (decide (aw.length<=1000000) &&aw.length.beq aw.length) (.c (decide (aS.length<=1000000) &&aw.length.beq aS.length) (al (.d 3 (List.take (fC aS).length (List.drop 0 (fC aS++Be (aS.length- (fC aS).length))))) []) .d) .d) .d) bX) bX) .d) .d):af aC).D:=ae
def D8(l:List aa)(k:Int)(nm:List UInt8)(ar:List aa):List aa:=bif (bc (dz nm) l 0).isSome then(bif k==3 then kq l ar []++ [.c .i64 (gm (bc (dz nm) l 0))]else kq l ar [])else kq l ar []
def tk(l:List aa)(k:Int)(nm:List UInt8)(ar:List aa):List aa:=fC (ko (D8 l k nm ar))
def ahU(x):(ko x).length=x.length:=by rw[Hu];rw[gR,ajm,gR]
def aD3(y z):List.take (fC y).length (List.drop 0 (fC y++z))=fC y:=by rw[oc];exact List.take_left' rfl
def WX:aq
 | [.d 72 l,.u [.c .i64 k,.c .i64 _,.h nm,.c .i64 _,.h _,.d 177 ar,.d 97 _,.d 97 _]],[]=>.I (decide (l.length<=100) &&decide (ar.length<=1000)) (.g (.a (.d 3 (tk l k nm ar)) []))
 |_,_=>.d
def aD4:aH 100 WX:=dN aW c_ (aA aB4 (aA Vy (aA ahn (aA aho aQ)))) ahN rfl aD1 λp q r h=>by
 unfold WX at h;split at h
 ·rename_i l k no nm ty ca ar bo el;obtain⟨h1,h2⟩:=aO h;simp only[au,bC]at h1;obtain⟨hl,ha⟩:=h1;have hu:=WU l ar [];have hm:ar.length*l.length<=1000*100:=zl ha hl;have aNi:(kq l ar []).length<=100000:=by simp only[rQ]at hu;omega
  have tail:∀x:List aa,x.length<=200000->∀{e1 e2:af aC},(af.c (decide (x.length<=1000000) &&x.length.beq x.length) (af.c (decide ((ko x).length<=1000000) &&x.length.beq (ko x).length) (.g (.a (.d 3 (List.take (fC (ko x)).length (List.drop 0 (fC (ko x)++Be ((ko x).length- (fC (ko x)).length))))) [])) e1) e2).D=some (V6 (fC (ko x))):=λx hx e1 e2=>by rw[aD3,ahU];exact aZ (by rw[aD (show x.length<=1000000 from ab),gq];rfl) (aZ (by rw[aD (show x.length<=1000000 from ab),gq];rfl) rfl)
  refine(aD2 l k no nm ty ca ar bo el).trans (bS (aZ ?_ (aZ (aD (show l.length<=bP by unfold bP;omega)) ?_)) h2)
  ·rw[rH rfl,aD rfl,aD (show l.length<=1000 from ab),aD ha];rfl
  ·show _=some (V6 (tk l k nm ar));unfold tk D8;cases(bc (dz nm) l 0).isSome with
   |true=>
    refine aZ rfl ?_;cases hk:k==3 with
    |true=>refine aZ rfl (aZ (aD (show(kq l ar []).length+1<=4294967296 from ab)) ?_);exact tail _ (by rw[eG];simp;omega)
    |false=>exact kK rfl (tail _ ab)
   |false=>exact kK rfl (tail _ ab)
 ·cases h
def du:List aa->List aa->List aa×Bool
 |h::hs,o::os=>bif h.b_ && !o.b_ then(.p false::(du hs os).1,true)else(h::(du hs os).1,(du hs os).2)
 |hs,[]=>(hs,false)
 | [],_=>([],false)
structure iY where
 a:List aa
 b:List aa
 c:List Int
def rN(behind:List aa):List aa->iY->iY
 | [],a=>a
 |q::r,a=>rN behind r (bif (du (a.a.getD q.I.toNat .m).U behind).2 || !(a.b.getD q.I.toNat .m).b_ then⟨a.a.set q.I.toNat (.d 4 (du (a.a.getD q.I.toNat .m).U behind).1),a.b.set q.I.toNat (.p true),a.c++ [q.I]⟩else⟨a.a.set q.I.toNat (.d 4 (du (a.a.getD q.I.toNat .m).U behind).1),a.b,a.c⟩)
def Hz(f:aa)(vs bo:List aa)(p:Int)(row:List aa):List aa:=bif (fg f bo p).2==0 && (na vs (dp (fg f bo p).1) (eI (fg f bo p).1) (dG (fg f bo p).1)).2 !=0 then row.set (na vs (dp (fg f bo p).1) (eI (fg f bo p).1) (dG (fg f bo p).1)).1.toNat (.p ((na vs (dp (fg f bo p).1) (eI (fg f bo p).1) (dG (fg f bo p).1)).2==1))else row
def rO(f:aa)(vs bo:List aa)(ct:Int):Nat->iY->iY
 |0,a=>a
 |n+1,a=>match a.c with
  | []=>a
  |p::w=>rO f vs bo ct n (rN (Hz f vs bo p (a.a.getD p.toNat .m).U) (ti f bo ct p).1 ⟨a.a,a.b,w⟩)
def MH(vs:List aa)(p:Nat):aa:=.d 4 (vs.map λv=>.p (decide ((p:Int)>0) || ((v.D 2).I== -1)))
def qG(vs:List aa)(ct:Int):List aa:=(List.range (ct+1).toNat).map (MH vs)
def D9(f:aa)(vs bo:List aa)(ct:Int):List aa:=(rO f vs bo ct ((ct+1).toNat*(vs.length+1)+1) ⟨qG vs ct,(List.replicate (ct+1).toNat (.p false)).set 0 (.p true),[0]⟩).a
def tn(n k:Nat)(m:List aa):Prop:=m.length=n/\∀r∈m,∃l:List aa,r=.d 4 l/\l.length=k
def D_:∀(h o:List aa),(du h o).1.length=h.length
 | [],[]=>rfl
 | [],_::_=>rfl
 |_::_,[]=>rfl
 |h::hs,o::os=>by
  rw[du];cases h.b_ && !o.b_ with
  |true=>show(du hs os).1.length+1=hs.length+1;rw[D_ hs os]
  |false=>show(du hs os).1.length+1=hs.length+1;rw[D_ hs os]
def ahV{m}(h:tn n k m){p:Nat}(hp:p<n):∃l:List aa,m.getD p .m=.d 4 l/\l.length=k:=by
 have qO:p<m.length:=by rw[h.1];exact hp
 have:=h.2 m[p] (mE qO);rwa[dD,cV qO,lr]
def aD5{m}(h:tn n k m)(q:Nat)(b):tn n k (m.set q (.d 4 (du (m.getD q .m).U b).1)):=by
 refine⟨by rw[qN];exact h.1,λr hr=> ?_⟩;by_cases hq:q<m.length
 ·rcases Bx hr with hr |rfl
  ·exact h.2 r hr
  ·obtain⟨l,e,hl⟩:=ahV h (h.1▸hq);refine⟨_,rfl,?_⟩;rw[D_,e];exact hl
 ·rw[List.set_eq_of_length_le ab]at hr;exact h.2 r hr
def ahW{n k:Nat}(b):∀(l:List aa)(a:iY),tn n k a.a->tn n k (rN b l a).a
 | [],a,h=>h
 |q::r,a,h=>by rw[rN];refine ahW b r _ ?_;cases(du (a.a.getD q.I.toNat .m).U b).2 || !(a.b.getD q.I.toNat .m).b_<;>exact aD5 h _ _
def ahX{n k:Nat}(f vs bo)(ct:Int):∀(m:Nat)(a:iY),tn n k a.a->tn n k (rO f vs bo ct m a).a
 |0,a,h=>h
 |m+1,a,h=>by
  rw[rO];cases a.c with
  |nil=>exact h
  |cons p w=>exact ahX f vs bo ct m _ (ahW _ _ _ h)
def aD6(f vs bo)(ct:Int):tn (ct+1).toNat vs.length (D9 f vs bo ct):=by refine ahX f vs bo ct _ _ ⟨by unfold qG;simp,λr hr=> ?_⟩;obtain⟨p,_,rfl⟩:=List.mem_map.1 hr;exact⟨_,rfl,aB⟩
def WY:aq
 | [.u [.h nm,.d 101 ps,.c .i64 rs,.d 97 bo,.c .i64 ct],.d 72 vs],[]=>.I (bF [aG nm ps rs bo ct] &&decide (vs.length<=50)) (.g (.a (.d 170 (D9 (aG nm ps rs bo ct) vs bo ct)) []))
 |_,_=>.d
def ahY(h o b n len i):(cB (ay an (aL []) yt aK) 1 3 (cq yt 0) [.y 4 0 0 n,.d 4 o,.p b,ah len,ah i] [.b false 0 4 h]).D=((letI ai:=Nat.beq 4 4 &&true &&decide (0<=i) &&decide (i<(↑n:Int));letI ak:=i64.wrap (i+1);letI aw:af (aU×List aa×List aj):=.g ((.b,[.y 4 0 0 n,.d 4 o,.p b,ah len,ah ak],[.b false 0 4 h]));af.c (decide (i<len)) (.c ai (.c ((h.getD i.toNat .m).b_) (.c (decide (0<=i) &&decide (i<(↑o.length:Int))) (.c (!(o.getD i.toNat .m).b_) (.c ai (.g ((.b,[.y 4 0 0 n,.d 4 o,.p true,ah len,ah ak],[.b false 0 4 (h.set i.toNat (.p false))]))) .d) aw) .d) aw) .d) (.g ((.a 0,[.p b],[.b false 0 4 h])))):af (aU×List aa×List aj)).D:=ae
def WZ:dk:=λm_ key vs os=>match vs,os with
 | [.y 4 0 0 n,.d 4 o,.p false,.c .i64 len,.c .i64 0],[.b false 0 4 h]=>.I (Nat.beq n h.length &&decide (len=(h.length:Int)) &&Nat.beq h.length o.length &&decide (h.length<=1000) &&Nat.beq m_ 1 &&Nat.beq key 3) (.g (.a 0,[.p (du h o).2],[.b false 0 4 (du h o).1]))
 |_,_=>.d
def ahZ:aq
 | [.y 4 0 0 n,.d 4 o],[.b false 0 4 h]=>.I (Nat.beq n h.length &&Nat.beq h.length o.length &&decide (h.length<=1000)) (.g (.a (.p (du h o).2) [.b false 0 4 (du h o).1]))
 |_,_=>.d
def aD7(h o):(aI (ay an (aL []) yt WZ) false f139 [.y 4 0 0 h.length,.d 4 o] [.b false 0 4 h]).D=((af.c (h.length.beq h.length &&decide ((↑h.length:Int)=(↑h.length:Int)) &&h.length.beq o.length &&decide (h.length<=1000) &&Nat.beq 1 1 &&Nat.beq 3 3) (al (.p (du h o).snd) [.b false 0 4 (du h o).fst]) .d)).D:=ae
def ah0(n:Nat)(hn:n<=1000):∀(k i:Nat)(p r po ro:List aa)(b:Bool),i+k=n->p.length=i->r.length=k->po.length=i->ro.length=k->
  bw an (aL []) yt 1 3 [.y 4 0 0 n,.d 4 (po++ro),.p b,.c .i64 (n:Int),.c .i64 (i:Int)] [.b false 0 4 (p++r)] (.a 0,[.p (b || (du r ro).2)],[.b false 0 4 (p++(du r ro).1)])
 |0,i,p,r,po,ro,b,h1,h2,h3,h4,h5=>by obtain rfl:=List.length_eq_zero_iff.1 h3;obtain rfl:=List.length_eq_zero_iff.1 h5;refine eB.V WQ 0 ae ae cv (ahY (p++ []) (po++ []) b n n i) (.sJ (ly ab) (.I ?_ rfl));rw[show(du [] []).2=false from rfl,Bool.or_false];rfl
 |k+1,i,p,r,po,ro,b,h1,h2,h3,h4,h5=>by
  obtain⟨x,r,rfl⟩:∃x q,r=x::q:=by
   cases r with
   |nil=>cases h3
   |cons x q=>exact⟨x,q,rfl⟩
  obtain⟨y,ro,rfl⟩:∃x q,ro=x::q:=by
   cases ro with
   |nil=>cases h5
   |cons x q=>exact⟨x,q,rfl⟩
  have bg:=ahY (p++x::r) (po++y::ro) b n n i;have hg:∀(q s:List aa)(z:aa),q.length=i->(q++z::s).getD (i:Int).toNat .m=z:=λq s z hq=>by rw[dE,dD,kx ab,hq,ni];rfl
  have hs:(p++x::r).set (i:Int).toNat (.p false)=(p++ [.p false])++r:=by rw[dE,No _ _ ab,h2,ni];simp
  rw[hg p r x h2,hg po ro y h4,hs,ep ab ab,show(i:Int)+1=((i+1:Nat):Int)from ab]at bg;have hb:(Nat.beq (4:TypeId) (4:TypeId) &&true &&decide ((0:Int)<=(i:Int)) &&decide ((i:Int)<(n:Int)))=true:=by rw[aD (show(0:Int)<=(i:Int)from ab),aD (show(i:Int)<(n:Int)from ab)];rfl
  have eT:(decide ((0:Int)<=(i:Int)) &&decide ((i:Int)<((po++y::ro).length:Int)))=true:=by rw[aD (show(0:Int)<=(i:Int)from ab),aD (show(i:Int)<((po++y::ro).length:Int)by simp;omega)];rfl
  have go:∀(u:aa)(b':Bool),bw an (aL []) yt 1 3 [.y 4 0 0 n,.d 4 (po++y::ro),.p b',.c .i64 (n:Int),.c .i64 ((i+1:Nat):Int)] [.b false 0 4 ((p++ [u])++r)] (.a 0,[.p (b' || (du r ro).2)],[.b false 0 4 ((p++ [u])++(du r ro).1)]):=λu b'=>by have:=ah0 n hn k (i+1) (p++ [u]) r (po++ [y]) ro b' ab (by simp;omega) (by simpa using h3) (by simp;omega) (by simpa using h5);rw[jb po]at this;exact this
  refine eB.V WQ 0 ae ae cv bg (.D (aD ab) (.D hb ?_));rw[du];cases hx:x.b_ with
  |false=>refine .sJ rfl (.mR ?_);have:=go x b;simp only[jb,u9,zj]at this;exact this
  |true=>
   refine .D rfl (.D eT ?_);cases hy:y.b_ with
   |true=>refine .sJ rfl (.mR ?_);have:=go x b;simp only[jb,u9,zj]at this;exact this
   |false=>refine .D rfl (.D hb (.mR ?_));have:=go (.p false) true;rw[Bool.true_or]at this;show bw _ _ _ _ _ _ _ (.a 0,[.p (b ||true)],_);rw[Bool.or_true];simp only[jb,u9,zj]at this⊢;exact this
def aD8:cJ an (aL []) yt WZ:=by
 intro m_ key vs os r h;unfold WZ at h;split at h
 ·rename_i n o len hh;obtain⟨h1,h2⟩:=aO h;simp only[au,bC]at h1;obtain⟨⟨⟨⟨⟨hn,rfl⟩,ho⟩,hl⟩,hm⟩,hk⟩:=h1;obtain rfl:=aV hm;obtain rfl:=aV hk;obtain rfl:=aV hn;cases h2;exact ah0 hh.length hl hh.length 0 [] hh [] o false ab rfl rfl rfl (aV ho).symm
 ·cases h
def aD9:aH 139 ahZ:=dN aW c_ aQ WQ rfl aD8 λp q r h=>by
 unfold ahZ at h;split at h
 ·rename_i n o hh;obtain⟨h1,h2⟩:=aO h;simp only[au,bC]at h1;obtain⟨⟨hn,ho⟩,hl⟩:=h1;obtain rfl:=aV hn;refine(aD7 hh o).trans (bS (aZ ?_ ?_) h2)
  ·rw[gq,aD rfl,ho,aD hl];rfl
  ·rfl
 ·cases h
section
variable{P:Program}{Tt:TypeId->bz}{w w':World}{a:Act}{N:Nat}{l:lJ}{ops:Array Oper}{kn:Nat}{Q:Exit->Act->World->Prop}{j:Nat}{ls:List Nat}{o:Oper}
def ah1(hT:cH P Tt){o}(ho:o.op=.makeSlice t x y)(hd:(Tt t).c=.a e)(he:(Tt e).D=true)(hx:a.eval x=.int .i64 n)(hy:a.eval y=.int .i64 n)(hn:n<=eU)(ir:(Tt e).a=1):
  ∃z:Value,ax Tt w (λ_=>False) (gw (Tt e)) bh z/\z.cells.size=1/\(execOp a.eval o).run P w=.ok (.value (.slice (some ⟨w.heap.size,0,none⟩) n n)) (w.alloc (.cells (List.replicate n z.cells.toList).flatten.toArray e)):=by
 have row:=hT.D he;obtain⟨hu,_⟩:=(hT.D (jh hd aB)).I hd;obtain⟨z,hz,aMj,_⟩:=row.U (T:=Tt) (w:=w) (O:=λ_=>False) w bh;obtain⟨_,l4⟩:=iA.U (w:=w) (O:=λ_=>False) row hz n;refine⟨z,aMj,l4.trans ir,?_⟩;have hw:i64.wrap (n:Int)=n:=by unfold eU at hn;simp[IntKind.wrap,IntKind.bits,IntKind.signed];omega
 obtain⟨it,zt,jP,akO,HV,_⟩:=row.j;have xu:=row.p;have aKb:¬((it.bytes:Int)*(n:Int)>2 ^ 48):=by rw[HV];unfold eU at hn;have:((Tt e).e:Int)*(n:Int)<=32768*4294967296:=Int.mul_le_mul ab ab ab ab;omega
 have qS:((Array.range (n*(Tt e).a)).map (z.cells[· % z.cells.size]!))=(List.replicate n z.cells.toList).flatten.toArray:=by rw[<-l4];exact Jn z.cells (by rw[l4];exact row.m) _
 simp only[execOp,ho,hx,hy,Instr.makeSlice,eh,dR hu,fD,asInt,asIntOf,ju,typeInfo,run_program,jP,hw];rw[if_neg (by simp;omega)];simp only[eh,run_askRoom,fD,row.D,dE];by_cases h0:n*(Tt e).a=0
 ·have tF:n=0:=by
   rcases Nat.mul_eq_zero.1 h0 with h |h
   ·exact h
   ·omega
  have qT:((Array.range (n*(Tt e).a)).map ((#[]:Array Value)[· % (#[]:Array Value).size]!))=(List.replicate n z.cells.toList).flatten.toArray:=by rw[h0,tF];simp
  simp only[if_pos h0,eh,fD,ju,qT];rfl
 ·simp only[if_neg h0,eh,hz,fD,ju,qS];rfl
def ah2(hT:cH P Tt)(ho:gB ops j o (.makeSlice t x y) (some d))(hs:bM N l a)(hN:d<N)(hd:(Tt t).c=.a e)(he:(Tt e).D=true)(hx:eW l x=some (.int .i64 n))(hy:eW l y=some (.int .i64 n))(hn:n<=eU)(ir:(Tt e).a=1)
  (h:∀a'(z:Array Value),z.size=n->bM N ((d,.slice (some ⟨w.heap.size,0,none⟩) n n)::l) a'->wpOpsIn Fence.wide kn P ops Q ls a' (w.alloc (.cells z e))):wpOpsIn Fence.wide kn P ops Q (j::ls) a w:=by
 obtain⟨z,_,hz,bm⟩:=ah1 (w:=w) hT ho.a hd he (hs.I hx) (hs.I hy) hn ir;exact lK ho hs hN bm λa' s'=>h a' _ (by simp[hz]) s'
def aD_(hT:cH P aJ)(ho:gB ops j o (.makeSlice t x y) (some d))(hs:bM N l a)(hN:d<N)(hd:(aJ t).c=.a 4)(hx:eW l x=some (.int .i64 n))(hy:eW l y=some (.int .i64 n))(hn:n<=eU)
  (h:∀a',bM N ((d,.slice (some ⟨w.heap.size,0,none⟩) n n)::l) a'->wpOpsIn Fence.wide kn P ops Q ls a' (w.alloc (.cells (List.replicate n (Value.bool false)).toArray 4))):wpOpsIn Fence.wide kn P ops Q (j::ls) a w:=by
 obtain⟨z,Zj,hz,bm⟩:=ah1 (w:=w) hT ho.a hd rfl (hs.I hx) (hs.I hy) hn rfl;have Zj:z=.bool false:=Zj;subst Zj;have e:(List.replicate n (Value.bool false).cells.toList).flatten=List.replicate n (Value.bool false):=by show(List.replicate n [Value.bool false]).flatten=_;simp
 rw[e]at bm;exact lK ho hs hN bm λa' s'=>h a' s'
def ah3(ho:gB ops j o (.box t x) (some d))(hs:bM N l a)(hN:d<N)(hx:eW l x=some v)
  (h:∀a',bM N ((d,.pointer (some ⟨w.heap.size,0,none⟩))::l) a'->wpOpsIn Fence.wide kn P ops Q ls a' (w.alloc (.cells v.cells t))):wpOpsIn Fence.wide kn P ops Q (j::ls) a w:=by
 refine lK ho hs hN (w':=w.alloc (.cells v.cells t)) ?_ h;simp[execOp,ho.a,hs.I hx,Instr.box,newVar];rfl
def uW(ob:Obj):cw eL w (w.alloc ob):=⟨rfl,rfl,rfl,aB,λc hc _=>zZ w ob hc⟩
end
def lU(l:List aa):List Value:=l.map λv=>Value.bool v.b_
def Bi(l:List aa):Prop:=∀v∈l,v=.p v.b_
structure qH(w:World)(b k:Nat)(l:List aa):Prop where
 a:w.heap[b]? =some (.cells (lU l).toArray 4 (0,0))
 c:l.length=k
 d:Bi l
structure tp(w:World)(y:Value)(b0:Nat)(bs:List Nat)(k:Nat)(M:List aa):Prop where
 f:y=.slice (some ⟨b0,0,none⟩) M.length M.length
 c:bs.length=M.length
 g:(b0::bs).Nodup
 a:w.heap[b0]? =some (.cells (bs.map λb=>Value.slice (some ⟨b,0,none⟩) k k).toArray 170 (0,0))
 d:∀(i b:Nat)(r:aa),bs[i]? =some b->M[i]? =some r->∃l,r=.d 4 l/\qH w b k l
def ah4{T':Unit}(h:qH w b k l):bN aJ w O l 4 b 0:=by
 have key:∀(r p:List aa),l=p++r->bN aJ w O r 4 b p.length:=by
  intro r;induction r with
  |nil=>intro _ _;trivial
  |cons v r ih=>
   intro p hp;have hv:v=.p v.b_:=h.d v (by rw[hp];simp);refine⟨?_,⟨[.bool v.b_],rfl,?_,?_⟩,?_⟩
   ·rw[hv];exact⟨rfl,rfl⟩
   ·refine uO ?_;simp only[World.cell?,h.a];simp[lU,hp]
   ·rw[hv];rfl
   ·have:=ih (p++ [v]) (by rw[hp];simp);rw[eG]at this;exact this
 exact key l [] rfl
def pK(vs:List aa)(i:Nat):List aa:=vs.map λv=>.p (decide ((i:Int)>0) || ((v.D 2).I== -1))
def aD'(vs)(i:Nat):MH vs i=.d 4 (pK vs i):=rfl
def aEa(vs)(i:Nat):Bi (pK vs i):=λv hv=>by obtain⟨u,_,rfl⟩:=List.mem_map.1 hv;rfl
def ah5{w O}{b:Nat}:∀{vs:List aa}{o:Nat},bN aJ w O vs 72 b o->∀(j:Nat)(v:aa),vs[j]? =some v->w.cell? ⟨b,o+j*5+2,none⟩=some (.int .i64 (v.D 2).I)
 |u::vs,o,h,0,v,hv=>by
  cases hv;obtain⟨⟨_,h1⟩,⟨cs,h2,h3,h4⟩,_⟩:=h;have hf:aa.u [.h (u.D 0).bJ,.c .i64 (u.D 1).I,.c .i64 (u.D 2).I,.c .i64 (u.D 3).I,.c .i64 (u.D 4).I]=u:=h1;rw[<-hf]at h4;obtain⟨ar,e,_,r0,g0,_,_,r1,g1,_,c2,r2,g2,g3,_⟩:=h4;have e:Value.agg cs.toArray=.agg ar:=e;injection e with e;have e2:cs=ar.toList:=by rw[<-e]
  have hc:cs[2]? =some c2:=by rw[e2,g0,g1,g2];rfl
  have:=h3 2 c2 hc;rw[show o+0*5+2=o+2 from ab,this,g3]
 |u::vs,o,h,j+1,v,hv=>by have:=ah5 (vs:=vs) (o:=o+5) h.2.2 j v hv;rw[show o+(j+1)*5+2=o+5+j*5+2 from ab];exact this
noncomputable def b7(k:Nat):Array Oper:=(rp k (f134.body.getD .skip)).getD #[]
def aEb:f134.body=some (.seq (.region 0 (b7 0) false) (.seq (.region 1 (b7 1) false) (.seq (.seq (.region 2 (b7 2) false) (.block 0 (.loop (.seq (.region 3 (b7 3) false) (.seq (.cond (.tmp 15) .skip (.exit 0)) (.seq (.block 1 (.seq (.region 4 (b7 4) false) (.seq (.region 5 (b7 5) false) (.seq (.region 6 (b7 6) false) (.block 2 (.loop (.seq (.region 7 (b7 7) false) (.seq (.cond (.tmp 26) .skip (.exit 2)) (.seq (.block 3 (.seq (.region 8 (b7 8) false) (.region 9 (b7 9) true))) (.region 10 (b7 10) false)))))))))) (.region 11 (b7 11) false))))))) (.seq (.region 12 (b7 12) false) .ret)))):=ae
def aEc:f134.ntmps=47:=ae
def dW(k j:Nat):Oper:=((b7 k)[j]?).getD default
def aEd:=aM b7 dW 0 0 (.box 43 (.tmp 0)) (some 2)
def aEe:=aM b7 dW 0 1 (.assign (.const (.slice none 0 0))) (some 4)
def aEf:=aM b7 dW 1 0 (.fieldAddr 43 (.tmp 2) 4) (some 8)
def aEg:=aM b7 dW 1 1 (.load 3 (.tmp 8)) (some 9)
def aEh:=aM b7 dW 1 2 (.binOp .add 3 (.tmp 9) (.const (.int .i64 1)) 3) (some 10)
def aEi:=aM b7 dW 1 3 (.makeSlice 172 (.tmp 10) (.tmp 10)) (some 11)
def aEj:=aM b7 dW 1 4 (.assign (.tmp 11)) (some 5)
def aEk:=aM b7 dW 2 0 (.move (.tmp 5)) (some 12)
def aEl:=aM b7 dW 2 1 (.call ⟨.builtin .len,#[.tmp 12],#[172]⟩) (some 13)
def aEm:=aM b7 dW 2 2 (.move (.const (.int .i64 0))) (some 14)
def aEn:=aM b7 dW 3 0 (.binOp .lss 3 (.tmp 14) (.tmp 13) 3) (some 15)
def aEo:=aM b7 dW 4 0 (.move (.tmp 14)) (some 16)
def aEp:=aM b7 dW 4 1 (.assign (.tmp 16)) (some 6)
def aEq:=aM b7 dW 5 0 (.move (.tmp 5)) (some 17)
def aEr:=aM b7 dW 5 1 (.move (.tmp 6)) (some 18)
def aEs:=aM b7 dW 5 2 (.move (.tmp 1)) (some 19)
def aEt:=aM b7 dW 5 3 (.call ⟨.builtin .len,#[.tmp 19],#[54]⟩) (some 20)
def aEu:=aM b7 dW 5 4 (.makeSlice 170 (.tmp 20) (.tmp 20)) (some 21)
def aEv:=aM b7 dW 5 5 (.indexAddr 172 (.tmp 17) (.tmp 18)) (some 22)
def aEw:=aM b7 dW 5 6 (.store 170 (.tmp 22) (.tmp 21)) (none)
def aEx:=aM b7 dW 6 0 (.move (.tmp 1)) (some 23)
def aEy:=aM b7 dW 6 1 (.call ⟨.builtin .len,#[.tmp 23],#[54]⟩) (some 24)
def aEz:=aM b7 dW 6 2 (.move (.const (.int .i64 0))) (some 25)
def aEA:=aM b7 dW 7 0 (.binOp .lss 3 (.tmp 25) (.tmp 24) 3) (some 26)
def aEB:=aM b7 dW 8 0 (.move (.tmp 25)) (some 27)
def aEC:=aM b7 dW 8 1 (.assign (.tmp 27)) (some 7)
def ah6:=aM b7 dW 9 0 (.move (.tmp 5)) (some 28)
def ah7:=aM b7 dW 9 1 (.move (.tmp 6)) (some 29)
def ah8:=aM b7 dW 9 2 (.indexAddr 172 (.tmp 28) (.tmp 29)) (some 30)
def ah9:=aM b7 dW 9 3 (.load 170 (.tmp 30)) (some 31)
def ah_:=aM b7 dW 9 4 (.move (.tmp 7)) (some 32)
def ah':=aM b7 dW 9 5 (.move (.tmp 6)) (some 33)
def aia:=aM b7 dW 9 6 (.binOp .gtr 3 (.tmp 33) (.const (.int .i64 0)) 3) (some 34)
def MI:=aM b7 dW 9 7 (.move (.tmp 34)) (some 35)
def aib:=tM b7 dW 9 8 (.move (.tmp 1)) (some 36) (7,false)
def aic:=tM b7 dW 9 9 (.move (.tmp 7)) (some 37) (7,false)
def aid:=tM b7 dW 9 10 (.indexAddr 54 (.tmp 36) (.tmp 37)) (some 38) (7,false)
def aie:=tM b7 dW 9 11 (.fieldAddr 72 (.tmp 38) 2) (some 39) (7,false)
def aif:=tM b7 dW 9 12 (.load 3 (.tmp 39)) (some 40) (7,false)
def aih:=tM b7 dW 9 13 (.binOp .eql 3 (.tmp 40) (.const (.int .i64 (-1))) 3) (some 41) (7,false)
def W2:=aM b7 dW 9 14 (.pick (.tmp 35) (.const (.bool true)) (.tmp 41)) (some 42)
def aii:=aM b7 dW 9 15 (.indexAddr 170 (.tmp 31) (.tmp 32)) (some 43)
def aED:=aM b7 dW 9 16 (.store 4 (.tmp 43) (.tmp 42)) (none)
def aEE:=aM b7 dW 10 0 (.binOp .add 3 (.tmp 25) (.const (.int .i64 1)) 3) (some 44)
def aEF:=aM b7 dW 10 1 (.move (.tmp 44)) (some 25)
def aEG:=aM b7 dW 11 0 (.binOp .add 3 (.tmp 14) (.const (.int .i64 1)) 3) (some 45)
def aEH:=aM b7 dW 11 1 (.move (.tmp 45)) (some 14)
def aEI:=aM b7 dW 12 0 (.move (.tmp 5)) (some 46)
def aEJ:=aM b7 dW 12 1 (.assign (.tmp 46)) (some 4)
def aEK:List.range (b7 0).size=[0,1]:=ae
def aEL:List.range (b7 1).size=[0,1,2,3,4]:=ae
def aEM:List.range (b7 2).size=[0,1,2]:=ae
def aEN:List.range (b7 3).size=[0]:=ae
def aEO:List.range (b7 4).size=[0,1]:=ae
def aEP:List.range (b7 5).size=[0,1,2,3,4,5,6]:=ae
def aEQ:List.range (b7 6).size=[0,1,2]:=ae
def aER:List.range (b7 7).size=[0]:=ae
def aES:List.range (b7 8).size=[0,1]:=ae
def aET:List.range (b7 10).size=[0,1]:=ae
def aEU:List.range (b7 11).size=[0,1]:=ae
def aEV:List.range (b7 12).size=[0,1]:=ae
def aEW:f134.results= #[.tmp 4]:=ae
def Ea:(b7 9).size=17:=ae
def jr(j:Nat):List Nat:=match j with |2=> [0,1] |3=> [2] |6=> [5] |7=> [6] |8=> [7] |9=> [7] |10=> [8,9,7] |11=> [10,7] |12=> [11,7] |13=> [12,7] |14=> [7,13] |15=> [3,4] |16=> [15,14] |_=> []
def aEX(md:Region.Mode):J1 md (b7 9) [16] jr id:=ab3 (by cases md<;>kernel_rfl)
def zb(j:Nat):Nat:=bif Nat.beq j 16 then 46 else 28+j
def aij:∀j,j<17->zb j<47:=av
def aEY:∀j,j<17->j∉ [16]->∀k,k<17->k≠j->zb k≠zb j:=av
def aik:List Nat:=[1,5,6,7,13,14,24,25]
def aEZ:∀j,j<17->j∉ [16]->zb j∉aik:=av
def aE0:∀j,j<17->j∉ [16]->j=0\/j=1\/j=2\/j=3\/j=4\/j=5\/j=6\/j=7\/j=8\/j=9\/j=10\/j=11\/j=12\/j=13\/j=14\/j=15:=λj hj h=>by simp at h;omega
def Eb(lv y:Value)(i jj N k:Nat):lJ:=[(1,lv),(5,y),(6,.int .i64 i),(7,.int .i64 jj),(13,.int .i64 N),(14,.int .i64 i),(24,.int .i64 k),(25,.int .i64 jj)]
structure W3(lv y:Value)(b0 bi bl ol i jj N k kc:Nat)(no:Int)(w3:World):Prop where
 b:y=.slice (some ⟨b0,0,none⟩) N N
 c:i<N
 a:jj<k
 d:w3.cell? ⟨b0,i,none⟩=some (.slice (some ⟨bi,0,none⟩) k k)
 e:lv=.slice (some ⟨bl,ol,none⟩) k kc
 f:w3.cell? ⟨bl,ol+jj*5+2,none⟩=some (.int .i64 no)
def oU(g:Bool)(v:Value):Value:=bif g then undef else v
def uX(lv y:Value)(b0 bi bl ol i jj k:Nat)(no:Int)(j:Nat):Value:=match j with
 |0=>y |1=>.int .i64 i |2=>.pointer (some ⟨b0,i,none⟩) |3=>.slice (some ⟨bi,0,none⟩) k k |4=>.int .i64 jj |5=>.int .i64 i |6=>.bool (decide ((i:Int)>0)) |7=>.bool (decide ((i:Int)>0))
 |8=>oU (decide ((i:Int)>0)) lv |9=>oU (decide ((i:Int)>0)) (.int .i64 jj) |10=>oU (decide ((i:Int)>0)) (.pointer (some ⟨bl,ol+jj*5,none⟩)) |11=>oU (decide ((i:Int)>0)) (.pointer (some ⟨bl,ol+jj*5+2,none⟩)) |12=>oU (decide ((i:Int)>0)) (.int .i64 no) |13=>oU (decide ((i:Int)>0)) (.bool (no== -1))
 |14=>.bool (decide ((i:Int)>0) ||no== -1) |15=>.pointer (some ⟨bi,jj,none⟩) |_=>undef
def Ec{ops:Array Oper}{kn:Nat}{Q:Exit->Act->World->Prop}{j g dg:Nat}{o op x}{c:Bool}(ho:PU ops j o op (some d) (g,false))(hg:(ops[g]?).bind (λo:Oper=>o.dst)=some dg)(cC:dg<a.tmps.size)(hc:a.tmps.getD dg undef=.bool c)
  (bm:c=false->(execOp a.eval o).run P w=.ok (.value x) w):wpOpIn Fence.wide kn P ops Q j (λa' w'=>w'=w/\a'=a.put (some d) (oU c x)) a w:=by
 have hy:yielded ops a.tmps g=some c:=by
  unfold yielded;rw[hg];have:a.tmps[dg]? =some (.bool c):=by rw[fh,ku cC]at hc;rw[ku cC];exact dh some hc
  rw[show(some dg).bind (a.tmps[·]?)=a.tmps[dg]? from rfl,this]
 unfold wpOpIn;rw[ho.c];simp only;have hw:Region.wanted o (yielded ops a.tmps)= !c:=by unfold Region.wanted;rw[ho.e];simp only[hy];cases c<;>rfl
 rw[hw];cases c with
 |true=>rw[if_neg aB];exact⟨λf _=>trivial,trivial,by rw[ho.b];rfl⟩
 |false=>rw[if_pos (show(!false)=true from rfl)];refine⟨λf _=>trivial,?_⟩;have nw:(o.semAt Fence.wide.round a.eval).run P w=.ok (.value x) w:=bm rfl;rw[nw];exact⟨rfl,by rw[ho.b];rfl⟩
section
variable{lv y:Value}{b0 bi bl ol i jj N k kc kn:Nat}{no:Int}{w3 w:World}{a:Act}{Q:Exit->Act->World->Prop}
def aE1(h:W3 lv y b0 bi bl ol i jj N k kc no w3)(hw:∀b q u,w3.cell? ⟨b,q,none⟩=some u->b≠bi->w.cell? ⟨b,q,none⟩=some u)(mH:b0≠bi)(j6:bl≠bi)(hs:bM 47 (Eb lv y i jj N k) a)(j:Nat)(hj:j<17)(j7:j∉ [16])(hn:∀d∈jr j,d∉ [16]->a.tmps.getD (zb d) undef=uX lv y b0 bi bl ol i jj k no d):
  wpOpIn Fence.wide kn prog (b7 9) Q j (λa' w'=>w'=w/\a'=a.put (some (zb j)) (uX lv y b0 bi bl ol i jj k no j)) a w:=by
 have rm:∀{o:Oper}{t:Nat}{v:Value},o.op=.move (.tmp t)->a.tmps.getD t undef=v->(execOp a.eval o).run prog w=.ok (.value v) w:=λho hv=>by rw[<-hv];exact CR ho
 have g7:((b7 9)[7]?).bind (λo:Oper=>o.dst)=some 35:=by rw[MI.b];exact MI.c
 have gs:35<a.tmps.size:=by rw[hs.c];decide
 rcases aE0 j hj j7 with rfl |rfl |rfl |rfl |rfl |rfl |rfl |rfl |rfl |rfl |rfl |rfl |rfl |rfl |rfl |rfl
 ·exact gY ah6 (rm ah6.a (hs.b 5 _ rfl))
 ·exact gY ah7 (rm ah7.a (hs.b 6 _ rfl))
 ·have h0:=hn 0 (by simp[jr]) av;have h1:=hn 1 (by simp[jr]) av;have:=A2 (P:=prog) (w:=w) (a:=a) aW ah8.a rfl rfl (h0.trans h.b) h1 (rR i) (by have:=h.c;omega);rw[dE,show 0+i*(aJ 170).a=i by show 0+i*1=i;omega]at this;exact gY ah8 this
 ·exact gY ah9 (ye aW rfl rfl (uO (hw _ _ _ h.d mH)) ah9.a (hn 2 (by simp[jr]) av))
 ·exact gY ah_ (rm ah_.a (hs.b 7 _ rfl))
 ·exact gY ah' (rm ah'.a (hs.b 6 _ rfl))
 ·refine gY aia ?_;have h5:a.eval (.tmp 33)=.int .i64 i:=hn 5 (by simp[jr]) av;have h0:a.eval (.const (.int .i64 0))=.int .i64 0:=rfl;simp[execOp,aia.a,h5,h0,xS,binOp,Op.intCmp,uX]
 ·exact gY MI (rm MI.a (hn 6 (by simp[jr]) av))
 ·exact Ec aib g7 gs (hn 7 (by simp[jr]) av) λ_=>rm aib.a (hs.b 1 _ rfl)
 ·exact Ec aic g7 gs (hn 7 (by simp[jr]) av) λ_=>rm aic.a (hs.b 7 _ rfl)
 ·refine Ec aid g7 gs (hn 7 (by simp[jr]) av) λhc=> ?_;have h8:=hn 8 (by simp[jr]) av;have h9:=hn 9 (by simp[jr]) av;simp only[uX,hc,oU,ve]at h8 h9;have:=A2 (P:=prog) (w:=w) (a:=a) aW aid.a rfl rfl (h8.trans h.e) h9 (rR jj) (by have:=h.a;omega);rw[dE]at this;exact this
 ·refine Ec aie g7 gs (hn 7 (by simp[jr]) av) λhc=> ?_;have h10:=hn 10 (by simp[jr]) av;simp only[uX,hc,oU,ve]at h10;exact uf aW rfl rfl aie.a h10
 ·refine Ec aif g7 gs (hn 7 (by simp[jr]) av) λhc=> ?_;have h11:=hn 11 (by simp[jr]) av;simp only[uX,hc,oU,ve]at h11;exact ye aW rfl rfl (uO (hw _ _ _ h.f j6)) aif.a h11
 ·refine Ec aih g7 gs (hn 7 (by simp[jr]) av) λhc=> ?_;have h12:=hn 12 (by simp[jr]) av;simp only[uX,hc,oU,ve]at h12;have h12:a.eval (.tmp 40)=.int .i64 no:=h12;have h0:a.eval (.const (.int .i64 (-1)))=.int .i64 (-1):=rfl;simp[execOp,aih.a,h12,h0,xS,binOp,Op.intCmp]
 ·refine gY W2 ?_;have h7:a.eval (.tmp 35)=.bool (decide ((i:Int)>0)):=hn 7 (by simp[jr]) av;have h13:a.eval (.tmp 41)=oU (decide ((i:Int)>0)) (.bool (no== -1)):=hn 13 (by simp[jr]) av;have h0:a.eval (.const (.bool true))=.bool true:=rfl;cases hc:decide ((i:Int)>0)with
  |true=>rw[hc]at h7;simp[execOp,W2.a,h7,h0,uX,asBool];have:=ff hc;omega
  |false=>rw[hc]at h7 h13;simp[execOp,W2.a,h7,h13,uX,oU,asBool];have:=eS hc;omega
 ·have h3:=hn 3 (by simp[jr]) av;have h4:=hn 4 (by simp[jr]) av;have:=A2 (P:=prog) (w:=w) (a:=a) aW aii.a rfl rfl h3 h4 (rR jj) (by have:=h.a;omega);rw[dE,show 0+jj*(aJ 4).a=jj by show 0+jj*1=jj;omega]at this;exact gY aii this
end
section
variable{lv y:Value}{b0 bi bl ol i jj N k kc kn:Nat}{no:Int}{w3 w:World}{a:Act}{Q:Exit->Act->World->Prop}
def aE2(h:W3 lv y b0 bi bl ol i jj N k kc no w3)(q0:w3={w with drawn:=w.drawn+1})(hb:w3.heap[bi]? =some (.cells arr 4 (0,0)))(IB:jj<arr.size)(mH:b0≠bi)(j6:bl≠bi)(hs:bM 47 (Eb lv y i jj N k) a)
  (eC:∀a' w',bM 47 (Eb lv y i jj N k) a'->yk w3 bi jj (.bool (decide ((i:Int)>0) ||no== -1)) w'->Q .normal a' w'):(Code.region 9 (b7 9) true).wpIn Fence.wide kn prog Q a w:=by
 have key:∀{w:World}(p:Nat),(match p with |0=>w=w3 |_=>yk w3 bi jj (.bool (decide ((i:Int)>0) ||no== -1)) w)->∀b q u,w3.cell? ⟨b,q,none⟩=some u->b≠bi->w.cell? ⟨b,q,none⟩=some u:=λp hp b q u hu bL=>by
  cases p with
  |zero=>have hp:_=w3:=hp;rw[hp];exact hu
  |succ p=>exact yW (yk.f hp b bL) hu
 refine ab4 (eD:=[16]) (rZ:=jr) (qY:=λ_=>id) (N:=47) (val:=λj=>(zb j,uX lv y b0 bi bl ol i jj k no j)) (I:=λp a w=>bM 47 (Eb lv y i jj N k) a/\(match p with |0=>w=w3 |_=>yk w3 bi jj (.bool (decide ((i:Int)>0) ||no== -1)) w)) aEX hs.c ⟨hs,q0.symm⟩ (λj hj=>aij j (Ea▸hj)) (λj hj j7 k hk=>aEY j (Ea▸hj) j7 k (Ea▸hk)) ?_ ?_ ?_ ?_
 ·rintro p a w j x hj j7 ⟨hs,hJ⟩;have hd:=aEZ j (Ea▸hj) j7;refine⟨hs.ab5 (aij j (Ea▸hj)) ?_ x,hJ⟩;have bL:∀q∈Eb lv y i jj N k,q.1≠zb j:=λq hq e=>hd (by
   rw[<-e];simp only[Eb,jc,oZ,og]at hq;rcases hq with rfl |rfl |rfl |rfl |rfl |rfl |rfl |rfl<;>simp[aik])
  have:=G0 (l:=[]) bL;rw[zk]at this;exact this
 ·rintro p a w j hj j7 ⟨hs,hJ⟩ hN hn;exact aE1 h (key p hJ) mH j6 hs j (Ea▸hj) j7 hn
 ·rintro p a w hp ⟨hs,hJ⟩ hN hn;have hp:p<1:=hp;obtain rfl:p=0:=ab;have hJ:w=w3:=hJ;subst hJ;have h15:a.tmps.getD 43 undef=.pointer (some ⟨bi,jj,none⟩):=hn 15 (by simp[jr]) av;have h14:a.tmps.getD 42 undef=.bool (decide ((i:Int)>0) ||no== -1):=hn 14 (by simp[jr]) av;refine ym (ui aW aED (uP (uP hs h15) h14) rfl rfl rfl rfl rfl rfl hb IB λw' hp=> ?_);exact⟨⟨hs,hp⟩,hN,λt _=>rfl⟩
 ·rintro a w ⟨hs,hp⟩;exact eC a w hs hp
end
structure aE3(vs:List aa)(lv y:Value)(i N k bi:Nat)(wA:World)(r:Nat)(a:Act)(w:World):Prop where
 b:∃arr:Array Value,w.heap[bi]? =some (.cells arr 4 (0,0))/\arr.size=k/\r<=k/\arr.toList.take (k-r)=(lU (pK vs i)).take (k-r)
 c:bM 47 [(1,lv),(5,y),(6,.int .i64 i),(13,.int .i64 N),(14,.int .i64 i),(24,.int .i64 k),(25,.int .i64 ((k-r:Nat):Int))] a
 d:cw (· =bi) wA w
 e:w.heap.size=wA.heap.size
def aE4{l m:List Value}(h:l.take n=m.take n)(hn:n<l.length)(hv:m[n]? =some v):(l.set n v).take (n+1)=m.take (n+1):=by have hm:n<m.length:=(List.getElem?_eq_some_iff.1 hv).1;rw[X6,X6,XL (bj n),h];simp[hn,hv]
section
variable{vs:List aa}{lv y:Value}{b0 bi i N k kn:Nat}{w0 wA:World}{O:Nat->Prop}{Q:Exit->Act->World->Prop}
def aE5(hk:vs.length=k)(gU:k<=1000)(hl:ax aJ w0 O (.d 72 vs) bh lv)(hy:y=.slice (some ⟨b0,0,none⟩) N N)(hi:i<N)(hN:N<=1000)(hA:cw eL w0 wA)(N7:w0.heap.size<=bi)(mH:b0≠bi)(gG:wA.cell? ⟨b0,i,none⟩=some (.slice (some ⟨bi,0,none⟩) k k))
 (hb:wA.heap[bi]? =some (.cells arr 4 (0,0)))(bE:arr.size=k)(hs:bM 47 [(1,lv),(5,y),(6,.int .i64 i),(13,.int .i64 N),(14,.int .i64 i),(24,.int .i64 k),(25,.int .i64 0)] a)
  (eC:∀a' w',bM 47 [(1,lv),(5,y),(13,.int .i64 N),(14,.int .i64 i)] a'->cw (· =bi) wA w'->w'.heap.size=wA.heap.size->qH w' bi k (pK vs i)->Q .normal a' w'):
  (Code.block 2 (.loop (.seq (.region 7 (b7 7) false) (.seq (.cond (.tmp 26) .skip (.exit 2)) (.seq (.block 3 (.seq (.region 8 (b7 8) false) (.region 9 (b7 9) true))) (.region 10 (b7 10) false)))))).wpIn Fence.wide kn prog Q a wA:=by
 refine lx (uc (aE3 vs lv y i N k bi wA) id k ⟨⟨arr,hb,bE,bj _,aB⟩,by rw[ni];exact hs,cw.V,rfl⟩ ?_);rintro r a w ⟨⟨arr,hb,bE,hr,vH⟩,hs,gW,akP⟩;refine b8 (cT ?_);rw[aER];refine CZ aEA hs av rfl rfl λa1 s1=> ?_;have hlen:(pK vs i).length=k:=by unfold pK;rw[gR,hk]
 cases r with
 |zero=>
  have h8:a1.eval (.tmp 26)=.bool false:=by rw[s1.I (x:=.tmp 26) rfl];exact dh Value.bool (ly ab)
  refine b8 (fY (t:=false) h8 (qL ?_));refine eC a1 w (s1.D rfl (s1.D rfl (s1.D rfl (s1.D rfl s1.V)))) gW akP ⟨?_,hlen,aEa vs i⟩;rw[hb];have e:arr.toList=lU (pK vs i):=by rw[M9,pL (by simp[bE]),pL (by unfold lU;rw[gR,hlen];omega)]at vH;exact vH
  rw[<-e]
 |succ r=>
  have h8:a1.eval (.tmp 26)=.bool true:=by rw[s1.I (x:=.tmp 26) rfl];exact dh Value.bool (aD ab)
  refine b8 (fY (t:=true) h8 (nj ?_));refine b8 (lx (b8 (cT ?_)));rw[aES];refine df aEB s1 av rfl λa2 s2=>iT aEC s2 av rfl λa3 s3=> ?_;show(Code.region 9 (b7 9) true).wpIn Fence.wide kn prog _ a3 w;obtain⟨jj,akQ⟩:∃jj,jj=k- (r+1):=⟨_,rfl⟩
  rw[<-akQ]at s3 vH;have NF:jj<k:=ab;have hv:vs[jj]? =some (vs.getD jj .m):=by rw[dD,cV ab];rfl
  obtain⟨ad,kc,IT,_,h0 | ⟨bl,ol,rfl,j6,hO,jw⟩⟩:=hl
  ·subst h0;simp at hk;omega
  have aMk:=ah5 jw jj _ hv;have j4:∀c,c<w0.heap.size->w.heap[c]? =w0.heap[c]? :=λc hc=>(gW.a c (dJ hc hA.d) ab).trans (hA.a c hc λh=>h);obtain⟨w3,q0⟩:∃w3,w3={w with drawn:=w.drawn+1}:=⟨_,rfl⟩
  have xJ:w3.heap=w.heap:=by rw[q0]
  have aMl:b0<wA.heap.size:=by
   rcases od b0 wA.heap.size with h |h
   ·exact h
   ·simp[World.cell?,EC h]at gG
  have aMm:w3.heap[b0]? =wA.heap[b0]? :=by rw[xJ];exact gW.a b0 aMl mH
  have aMn:w3.heap[bl]? =w0.heap[bl]? :=by rw[xJ];exact j4 bl j6
  have hH:W3 lv y b0 bi bl ol i jj N k kc ((vs.getD jj .m).D 2).I w3:=⟨hy,hi,NF,yW aMm gG,by rw[IT,hk],yW aMn aMk⟩
  refine aE2 hH q0 (by rw[xJ];exact hb) ab mH ab (s3.D rfl (s3.D rfl (s3.D rfl (s3.D rfl (s3.D rfl (s3.D rfl (s3.D rfl (s3.D (by rw[akQ];rfl) s3.V)))))))) λa4 w4 s4 hp=> ?_;show(Code.region 10 (b7 10) false).wpIn Fence.wide kn prog _ a4 w4;refine cT ?_;rw[aET];refine yl aEE s4 av rfl rfl λa5 s5=>df aEF s5 av rfl λa6 s6=> ?_;rw[ep ab ab,show(jj:Int)+1=((k-r:Nat):Int)from ab]at s6;have vA:w3.heap[bi]? =some (.cells arr 4 (0,0)):=by rw[xJ];exact hb
  refine⟨r,⟨⟨_,hp.d vA,by simp[bE],ab,?_⟩,s6.D rfl (s6.D rfl (s6.D rfl (s6.D rfl (s6.D rfl (s6.D rfl (s6.D rfl s6.V)))))),gW.D ?_,?_⟩,zp r⟩
  ·rw[show k-r=jj+1 from ab];refine aE4 vH (by simp[bE];exact NF) ?_;unfold lU pK;rw[HK,fX,hv];rfl
  ·have:=sY hp;rw[q0]at this;exact⟨this.f,this.i,this.j,this.d,this.a⟩
  ·rw[hp.a,xJ,akP]
end
def cw.U{w0}(h:cw eL w0 w)(g:cw (· =b) w w')(hb:w0.heap.size<=b):cw eL w0 w':=⟨g.f.trans h.f,g.i.trans h.i,g.j.trans h.j,eb h.d g.d,λc hc _=>(g.a c (dJ hc h.d) ab).trans (h.a c hc λh=>h)⟩
def wZ(k b:Nat):Value:=.slice (some ⟨b,0,none⟩) k k
structure W7(vs:List aa)(lv y:Value)(b0 N k:Nat)(w0:World)(r:Nat)(a:Act)(w:World):Prop where
 c:∃(bs:List Nat)(arr:Array Value),bs.length=N-r/\r<=N/\(b0::bs).Nodup/\(∀b∈b0::bs,w0.heap.size<=b/\b<w.heap.size)/\w.heap[b0]? =some (.cells arr 170 (0,0))/\arr.size=N/\arr.toList.take (N-r)=bs.map (wZ k)/\∀i b,bs[i]? =some b->qH w b k (pK vs i)
 e:bM 47 [(1,lv),(5,y),(13,.int .i64 N),(14,.int .i64 ((N-r:Nat):Int))] a
 d:cw eL w0 w
section
variable{vs:List aa}{lv y:Value}{b0 N k kn:Nat}{w0:World}{O:Nat->Prop}{Q:Exit->Act->World->Prop}
def aE6(hk:vs.length=k)(gU:k<=1000)(hl:ax aJ w0 O (.d 72 vs) bh lv)(hy:y=.slice (some ⟨b0,0,none⟩) N N)(hN:N<=1000){r:Nat}(hI:W7 vs lv y b0 N k w0 (r+1) a w)
  (eC:∀a' w',W7 vs lv y b0 N k w0 r a' w'->Q .normal a' w'):
  (Code.seq (.block 1 (.seq (.region 4 (b7 4) false) (.seq (.region 5 (b7 5) false) (.seq (.region 6 (b7 6) false) (.block 2 (.loop (.seq (.region 7 (b7 7) false) (.seq (.cond (.tmp 26) .skip (.exit 2)) (.seq (.block 3 (.seq (.region 8 (b7 8) false) (.region 9 (b7 9) true))) (.region 10 (b7 10) false)))))))))) (.region 11 (b7 11) false)).wpIn Fence.wide kn prog Q a w:=by
 obtain⟨⟨bs,arr,e1,e2,cP,j8,hb,bE,vH,tU⟩,s0,gW⟩:=hI;obtain⟨i,hi⟩:∃i,i=N- (r+1):=⟨_,rfl⟩
 rw[<-hi]at e1 s0 vH;obtain⟨Y7,aMo⟩:=List.nodup_cons.1 cP;refine b8 (lx (b8 (cT ?_)));rw[aEO];refine df aEo s0 av rfl λa1 s1=>iT aEp s1 av rfl λa2 s2=> ?_;show Code.wpIn Fence.wide kn prog _ _ a2 w;refine b8 (cT ?_);rw[aEP];obtain⟨ad,kc,IT,_⟩:=id hl;rw[hk]at IT;refine df aEq s2 av rfl λa3 s3=>df aEr s3 av rfl λa4 s4=>df aEs s4 av rfl λa5 s5=>Ag aW aEt s5 av rfl (dh some IT) λa6 s6=> ?_;refine ah2 aW aEu s6 av rfl rfl rfl rfl (by unfold eU;omega) rfl λa7 z hz s7=> ?_;obtain⟨bi,N7⟩:∃bi,bi=w.heap.size:=⟨_,rfl⟩
 rw[<-N7]at s7;obtain⟨wM,N8⟩:∃wM,wM=w.alloc (.cells z 4):=⟨_,rfl⟩
 rw[<-N8];have Zk:cw eL w wM:=by rw[N8];exact uW _
 have aMp:wM.heap[bi]? =some (.cells z 4 (0,0)):=by rw[N8,N7];exact ji w _
 have aMq:wM.heap.size=bi+1:=by rw[N8,N7];simp
 have mH:=j8 b0 aB;have akR:wM.heap[b0]? =some (.cells arr 170 (0,0)):=(Zk.a b0 mH.2 λh=>h).trans hb;refine ru aW aEv s7 av rfl rfl (dh some hy) rfl (rR i) ab λa8 s8=> ?_;rw[dE,show 0+i*(aJ 170).a=i by show 0+i*1=i;omega]at s8;refine ui aW aEw s8 rfl rfl rfl rfl rfl rfl akR ab λwA hp=> ?_;show Code.wpIn Fence.wide kn prog _ _ a8 wA;refine b8 (cT ?_);rw[aEQ];refine df aEx s8 av rfl λa9 s9=>Ag aW aEy s9 av rfl (dh some IT) λa10 s10=>df aEz s10 av rfl λa11 s11=> ?_;have bL:b0≠bi:=ab;have akS:cw eL w0 wA:=(gW.D Zk).U (sY hp) mH.1;have akT:=hp.d akR;refine aE5 (i:=i) (N:=N) (k:=k) (bi:=bi) (b0:=b0) hk gU hl hy ab hN akS (by have:=gW.d;omega) bL ?_ ((hp.f bi (lY bL)).trans aMp) hz (s11.D rfl (s11.D rfl (s11.D rfl (s11.D rfl (s11.D rfl (s11.D rfl (s11.D rfl s11.V))))))) λa12 w12 s12 Zl aNj hR=> ?_
 ·simp only[World.cell?,akT];rw[tE,EE (by simp;omega)];rfl
 show(Code.region 11 (b7 11) false).wpIn Fence.wide kn prog _ a12 w12;refine cT ?_;rw[aEU];refine yl aEG s12 av rfl rfl λa13 s13=>df aEH s13 av rfl λa14 s14=> ?_;rw[ep ab ab,show(i:Int)+1=((N-r:Nat):Int)from ab]at s14;have aNk:wA.heap.size=bi+1:=by rw[hp.a,aMq]
 have hold:∀c∈bs,w12.heap[c]? =w.heap[c]? :=λc hc=>by have h1:=(j8 c (by simp[hc])).2;exact(Zl.a c ab ab).trans ((hp.f c λe=>Y7 (e▸hc)).trans (Zk.a c h1 λh=>h))
 refine eC a14 w12 ⟨⟨bs++ [bi],_,by simp;omega,ab,?_,?_,(Zl.a b0 ab bL).trans akT,by simp;exact bE,?_,?_⟩,s14.D rfl (s14.D rfl (s14.D rfl (s14.D rfl s14.V))),akS.U Zl (by have:=gW.d;omega)⟩
 ·refine List.nodup_cons.2 ⟨λh=> ?_,List.nodup_append.2 ⟨aMo,aB,λc h1 d h2 e=> ?_⟩⟩
  ·rcases List.mem_append.1 h with h |h
   ·exact Y7 h
   ·exact bL (List.mem_singleton.1 h)
  ·have:=(j8 c (by simp[h1])).2;have:=List.mem_singleton.1 h2;omega
 ·intro c hc;rcases List.mem_cons.1 hc with rfl |hc
  ·omega
  ·rcases List.mem_append.1 hc with h |h
   ·have:=j8 c (by simp[h]);omega
   ·have:=List.mem_singleton.1 h;have:=gW.d;omega
 ·rw[show N-r=i+1 from ab,X6];show(arr.toList.set i (wZ k bi)).take i++((arr.toList.set i (wZ k bi))[i]?).toList=_;rw[XL (bj i),vH,EE (by simp;omega)];simp
 ·intro j b hj;rcases od j bs.length with h |h
  ·rw[lZ h]at hj;have:=tU j b hj;exact⟨(hold b (eg hj)).trans this.a,this.c,this.d⟩
  ·rw[kx h]at hj;obtain⟨aNl,rfl⟩:j-bs.length=0/\b=bi:=by
    cases hh:j-bs.length with
    |zero=>rw[hh]at hj;simp at hj;exact⟨rfl,hj.symm⟩
    |succ n=>rw[hh]at hj;simp at hj
   have:j=i:=ab;rw[this];exact hR
def aE7{bs:List Nat}{vs}(jQ:ct+1=(N:Int))(hy:y=.slice (some ⟨b0,0,none⟩) N N)(hl:bs.length=N)(cP:(b0::bs).Nodup)(hb:w.heap[b0]? =some (.cells arr 170 (0,0)))(B9:arr.toList=bs.map (wZ k))(tU:∀i b,bs[i]? =some b->qH w b k (pK vs i)):tp w y b0 bs k (qG vs ct):=by
 have hlen:(qG vs ct).length=N:=by unfold qG;simp;omega
 refine⟨by rw[hlen];exact hy,by rw[hlen,hl],cP,?_,λi b r hi hr=> ?_⟩
 ·rw[hb];have:arr=(bs.map λb=>Value.slice (some ⟨b,0,none⟩) k k).toArray:=by apply Array.toList_inj.1;rw[B9];rfl
  rw[this]
 ·unfold qG at hr;rw[fX]at hr;cases hq:(List.range (ct+1).toNat)[i]? with
  |none=>rw[hq]at hr;cases hr
  |some j=>rw[hq]at hr;rw[ajh]at hq;obtain⟨h1,h2⟩:=hq;rw[List.getElem_range]at h2;cases hr;subst h2;exact⟨_,aD' vs i,tU i b hi⟩
def aE8{fv}(hk:vs.length=k)(gU:k<=1000)(jQ:ct+1=(N:Int))(hN:N<=1000)(hf:ax aJ w0 O (.u [.h nm,.d 101 ps,.c .i64 rs,.d 97 bo,.c .i64 ct]) bh fv)(hl:ax aJ w0 O (.d 72 vs) bh lv):
  CallsIn Fence.wide kn prog 134 #[fv,lv] w0 λe w'=>∃y b0 bs,e=.returned y/\cw eL w0 w'/\(∀b∈b0::bs,w0.heap.size<=b/\b<w'.heap.size)/\tp w' y b0 bs k (qG vs ct):=by
 refine BC func134 aEb trivial ?_;rw[aEc];have s0:bM 47 [(0,fv),(1,lv)] _:=FX (vs:=[fv,lv]) aB;refine b8 (cT ?_);rw[aEK];refine ah3 aEd s0 av rfl λa1 s1=>iT aEe s1 av rfl λa2 s2=> ?_;show Code.wpIn Fence.wide kn prog _ _ a2 _;obtain⟨c0,c1,c2,c3,aMr⟩:∃c0 c1 c2 c3,fv=.agg #[c0,c1,c2,c3,.int .i64 ct]:=by obtain⟨ar,rfl,c0,t0,r0,h0,c1,t1,r1,h1,c2,t2,r2,h2,c3,t3,r3,h3,c4,t4,r4,h4,h5⟩:=hf;have h4:c4=.int .i64 ct:=h4;have h5:t4=[]:=h5;refine⟨c0,c1,c2,c3,dh Value.agg (Array.toList_inj.1 ?_)⟩;rw[r0,r1,r2,r3,r4,h4,h5]
 subst aMr;obtain⟨w1,iM⟩:∃w1,w1=w0.alloc (.cells (Value.agg #[c0,c1,c2,c3,.int .i64 ct]).cells 43):=⟨_,rfl⟩
 rw[<-iM];have fw:cw eL w0 w1:=by rw[iM];exact uW _
 have gG:w1.cell? ⟨w0.heap.size,4,none⟩=some (.int .i64 ct):=by rw[iM];simp only[World.cell?,ji w0 _];rfl
 refine b8 (cT ?_);rw[aEL];refine CY aW aEf s2 av rfl rfl rfl λa3 s3=> ?_;refine sK aW aEg s3 av rfl rfl rfl gG λa4 s4=> ?_;refine yl aEh s4 av rfl rfl λa5 s5=> ?_;rw[ep ab ab,jQ]at s5;refine ah2 aW aEi s5 av rfl rfl rfl rfl (by unfold eU;omega) rfl λa6 z hz s6=>iT aEj s6 av rfl λa7 s7=> ?_;obtain⟨b0,mH⟩:∃b0,b0=w1.heap.size:=⟨_,rfl⟩
 rw[<-mH]at s7;obtain⟨w2,mI⟩:∃w2,w2=w1.alloc (.cells z 170):=⟨_,rfl⟩
 rw[<-mI];have dw:cw eL w0 w2:=by rw[mI];exact fw.D (uW _)
 have qP:w2.heap[b0]? =some (.cells z 170 (0,0)):=by rw[mI,mH];exact ji w1 _
 have HV:w2.heap.size=b0+1:=by rw[mI,mH];simp
 show Code.wpIn Fence.wide kn prog _ _ a7 w2;refine b8 (b8 (cT ?_));rw[aEM];refine df aEk s7 av rfl λa8 s8=>Ag aW aEl s8 av rfl rfl λa9 s9=>df aEm s9 av rfl λa10 s10=> ?_;show Code.wpIn Fence.wide kn prog _ _ a10 w2;refine lx (uc (W7 vs lv (.slice (some ⟨b0,0,none⟩) N N) b0 N k w0) id N ⟨⟨[],z,aB,bj _,aB,λb hb=> ?_,qP,hz,aB,λi b hi=>by cases hi⟩,?_,dw⟩ ?_)
 ·have:=List.mem_singleton.1 hb;have:=fw.d;omega
 ·rw[ni];exact s10.D rfl (s10.D rfl (s10.D rfl (s10.D rfl s10.V)))
 intro r a w hI;refine b8 (cT ?_);rw[aEN];refine CZ aEn hI.e av rfl rfl λa11 s11=> ?_;cases r with
 |zero=>
  have h8:a11.eval (.tmp 15)=.bool false:=by rw[s11.I (x:=.tmp 15) rfl];exact dh Value.bool (ly ab)
  refine b8 (fY (t:=false) h8 (qL ?_));obtain⟨bs,arr,e1,_,cP,j8,hb,bE,vH,tU⟩:=hI.c;show Code.wpIn Fence.wide kn prog _ _ a11 w;refine b8 (cT ?_);rw[aEV];refine df aEI s11 av rfl λa12 s12=>iT aEJ s12 av rfl λa13 s13=> ?_;show Code.ret.wpIn Fence.wide kn prog _ a13 w;refine vd ⟨s13.f,_,?_,_,b0,bs,rfl,hI.d,j8,aE7 jQ rfl e1 cP hb ?_ tU⟩
  ·rw[Nh aEW,s13.b 4 _ rfl]
  ·rw[M9,pL (by simp[bE])]at vH;exact vH
 |succ r=>
  have aNm:r+1<=N:=by obtain⟨bs,arr,_,h,_⟩:=hI.c;exact h
  have h8:a11.eval (.tmp 15)=.bool true:=by rw[s11.I (x:=.tmp 15) rfl];exact dh Value.bool (aD ab)
  refine b8 (fY (t:=true) h8 (nj ?_));refine aE6 hk gU hl rfl hN ⟨hI.c,s11.D rfl (s11.D rfl (s11.D rfl (s11.D rfl s11.V))),hI.d⟩ λa' w' hh=>⟨r,hh,zp r⟩
end
structure tq(w:World)(x:Value)(b:Nat)(l:List Int):Prop where
 a:∃(off cap:Nat)(arr:Array Value),x=.slice (some ⟨b,off,none⟩) l.length cap/\w.heap[b]? =some (.cells arr 3 (0,0))/\off+cap<=arr.size/\l.length<=cap/\∀(i:Nat)(n:Int),l[i]? =some n->arr[off+i]? =some (.int .i64 n)
def tq.I{x}{l:List Int}(h:tq w x b l):b<w.heap.size:=by obtain⟨_,_,_,_,h,_⟩:=h.a;exact mY h
def tq.D{x}{l:List Int}(h:tq w x b l)(hb:w'.heap[b]? =w.heap[b]?):tq w' x b l:=by obtain⟨off,cap,arr,h1,h2,h3⟩:=h.a;exact⟨off,cap,arr,h1,hb.trans h2,h3⟩
section
variable{P:Program}{Tt:TypeId->bz}{w w':World}{a:Act}{N:Nat}{l:lJ}{ops:Array Oper}{kn:Nat}{Q:Exit->Act->World->Prop}{j:Nat}{ls:List Nat}{o:Oper}
def Ed{vs}(ho:gB ops j o (.extract x n) (some d))(hs:bM N l a)(hN:d<N)(hx:eW l x=some (.tuple vs))(hv:vs[n]? =some v)
  (h:∀a',bM N ((d,v)::l) a'->wpOpsIn Fence.wide kn P ops Q ls a' w):wpOpsIn Fence.wide kn P ops Q (j::ls) a w:=
 lK ho hs hN (by simp[execOp,ho.a,hs.I hx,Instr.extract,hv]) h
def ail{m n:Int}(ho:gB ops j o (.binOp .eql t x y ty) (some d))(hs:bM N l a)(hd:d<N)(hx:eW l x=some (.int kd m))(hy:eW l y=some (.int kd n))
  (h:∀a',bM N ((d,.bool (m==n))::l) a'->wpOpsIn Fence.wide kn P ops Q ls a' w):wpOpsIn Fence.wide kn P ops Q (j::ls) a w:=
 lK ho hs hd (by simp[execOp,ho.a,hs.I hx,hs.I hy,xS,binOp,Op.intCmp]) h
def aim{m n:Int}(ho:gB ops j o (.binOp .neq t x y ty) (some d))(hs:bM N l a)(hd:d<N)(hx:eW l x=some (.int kd m))(hy:eW l y=some (.int kd n))
  (h:∀a',bM N ((d,.bool (m !=n))::l) a'->wpOpsIn Fence.wide kn P ops Q ls a' w):wpOpsIn Fence.wide kn P ops Q (j::ls) a w:=
 lK ho hs hd (by simp[execOp,ho.a,hs.I hx,hs.I hy,xS,binOp,Op.intCmp]) h
def aE9{m n:Int}(ho:gB ops j o (.binOp .gtr t x y ty) (some d))(hs:bM N l a)(hd:d<N)(hx:eW l x=some (.int kd m))(hy:eW l y=some (.int kd n))
  (h:∀a',bM N ((d,.bool (decide (m>n)))::l) a'->wpOpsIn Fence.wide kn P ops Q ls a' w):wpOpsIn Fence.wide kn P ops Q (j::ls) a w:=
 lK ho hs hd (by simp[execOp,ho.a,hs.I hx,hs.I hy,xS,binOp,Op.intCmp]) h
def aE_{c}{b:Bool}(ho:gB ops j o (.pick c x y) (some d))(hs:bM N l a)(hd:d<N)(hc:eW l c=some (.bool b))(hx:b=true->eW l x=some v)(hy:b=false->eW l y=some v)
  (h:∀a',bM N ((d,v)::l) a'->wpOpsIn Fence.wide kn P ops Q ls a' w):wpOpsIn Fence.wide kn P ops Q (j::ls) a w:=by
 refine lK ho hs hd ?_ h;cases b with
 |true=>simp[execOp,ho.a,hs.I hc,hs.I (hx rfl),asBool]
 |false=>simp[execOp,ho.a,hs.I hc,hs.I (hy rfl),asBool]
def HA{op}{g dg:Nat}{c:Bool}{x}(ho:PU ops j o op (some d) (g,false))(hg:(ops[g]?).bind (λo:Oper=>o.dst)=some dg)(hs:bM N l a)(hN:d<N)(cC:dg<N)(hc:Go.AH.mS l dg=some (.bool c))(bm:c=false->(execOp a.eval o).run P w=.ok (.value x) w)
  (h:∀a',bM N ((d,oU c x)::l) a'->wpOpsIn Fence.wide kn P ops Q ls a' w):wpOpsIn Fence.wide kn P ops Q (j::ls) a w:=by
 have hc:=hs.b dg _ hc;have hy:yielded ops a.tmps g=some c:=by
  unfold yielded;rw[hg];have cC:dg<a.tmps.size:=by rw[hs.c];exact cC
  have:a.tmps[dg]? =some (.bool c):=by rw[fh,ku cC]at hc;rw[ku cC];exact dh some hc
  rw[show(some dg).bind (a.tmps[·]?)=a.tmps[dg]? from rfl,this]
 have hw:Region.wanted o (yielded ops a.tmps)= !c:=by unfold Region.wanted;rw[ho.e];simp only[hy];cases c<;>rfl
 cases c with
 |true=>unfold wpOpsIn;rw[ho.c];simp only;rw[hw,if_neg aB,ho.b];exact⟨λf _=>trivial,h _ (hs.U hN _)⟩
 |false=>refine Go.AH.yj ho.c (show jH ops o a from hw) (bm rfl) (λf _=>trivial) ?_;rw[ho.b];exact h _ (hs.U hN _)
def aE'(hT:cH P Tt){off c:Nat}(ho:gB ops j o (.slice t x (some (.const (.int .i64 1))) none none) (some d))(hs:bM N l a)(hN:d<N)(hd:(Tt t).c=.a e)(he:(Tt e).D=true)(ir:(Tt e).a=1)
  (hx:eW l x=some (.slice (some ⟨b,off,none⟩) (n+1) (c+1)))(tI:n<=c)(h:∀a',bM N ((d,.slice (some ⟨b,bif c==0 then off else off+1,none⟩) n c)::l) a'->wpOpsIn Fence.wide kn P ops Q ls a' w):wpOpsIn Fence.wide kn P ops Q (j::ls) a w:=by
 have row:=hT.D he;obtain⟨hu,_⟩:=(hT.D (jh hd aB)).I hd;have im:P.elem t=e:=by simp[Program.elem,hu]
 refine lK ho hs hN ?_ h;simp only[execOp,ho.a,Bv,jt];rw[eh,XK (P:=P) w t _ _ _ _ (by rw[im];exact hu),hs.I hx];have h1:a.eval (.const (.int .i64 1))=.int .i64 1:=rfl;have h2:((1:Int)<=(n:Int)+1):=ab;simp[Instr.slice,dR hu,h1,Instr.sliceBounds,Instr.sliceBound,asIntOf,row.D,ir,h2];cases c with
 |zero=>simp
 |succ c=>simp[i_]
def W8(hT:cH P Tt)(ho:gB ops j o (.buildSlice t 1 #[(0,x)]) (some d))(hs:bM N l a)(hN:d<N)(hd:(Tt t).c=.a e)(he:(Tt e).D=true)(hx:eW l x=some v)(hv:v.cells.size=(Tt e).a)
  (h:∀a',bM N ((d,.slice (some ⟨w.heap.size,0,none⟩) 1 1)::l) a'->wpOpsIn Fence.wide kn P ops Q ls a' (w.alloc (.cells v.cells e))):wpOpsIn Fence.wide kn P ops Q (j::ls) a w:=by
 have row:=hT.D he;obtain⟨hu,_⟩:=(hT.D (jh hd aB)).I hd;obtain⟨z,hz,_⟩:=row.U (T:=Tt) (w:=w) (O:=λ_=>False) w bh;obtain⟨_,l4⟩:=iA.U (w:=w) (O:=λ_=>False) row hz 1;refine lK ho hs hN ?_ h;have BL:∀Z:Array Value,Z.size=(Tt e).a->Instr.fill (λi=>some (i*(Tt e).a,(Tt e).a)) Z [(0,v)]=some v.cells:=λZ hZ=>by
  simp only[Instr.fill];rw[if_neg (by rw[hv,hZ];simp)];congr 1
  apply Array.toList_inj.1;rw[<-HJ,XM];have:=Go.AH.OR v.cells.toList (0*(Tt e).a) 0 Z (by simp;omega);rw[this];simp[hZ,hv]
 have lA:=row.m;have aNn:=row.q;simp only[execOp,ho.a,Instr.buildSlice,eh,dR hu,fD,row.D];rw[if_neg ab,if_neg ab];simp only[eh,hz,fD,ju];have e0:(#[(0,x)].map λ(p:Nat×Operand)=>(p.1,a.eval p.2)).toList=[(0,v)]:=by rw[<-hs.I hx];simp
 rw[e0,BL _ aB];rfl
def aFa(hT:cH P aJ){c:Nat}{li:List Int}{xv}{n:Int}(ho:gB ops j o (.call ⟨.builtin .append,#[x,y],#[t,t]⟩) (some d))(hs:bM N l a)(hN:d<N)(hd:(aJ t).c=.a 3)(hx:eW l x=some xv)(hw:tq w xv b li)(hy:eW l y=some (.slice (some ⟨c,0,none⟩) 1 1))(hc:w.cell? ⟨c,0,none⟩=some (.int .i64 n))(hlen:li.length<=1000000)
  (h:∀a' w' yv b',bM N ((d,yv)::l) a'->tq w' yv b' (li++ [n])->(b'=b\/w.heap.size<=b'/\b'<w'.heap.size)->cw (· =b) w w'->wpOpsIn Fence.wide kn P ops Q ls a' w'):wpOpsIn Fence.wide kn P ops Q (j::ls) a w:=by
 have he:(aJ 3).D=true:=rfl;have row:=hT.D he;obtain⟨hu,_⟩:=(hT.D (jh hd aB)).I hd;obtain⟨i,z,hi,ir,xu,hz,_,pR,qP⟩:=row.j;have ir:i.size=1:=ir;have xu:i.bytes=8:=xu;have src:Jq P w t t o.type 3 (.slice (some ⟨c,0,none⟩) 1 1) 1 [.int .i64 n]:=O1 hu (.inr ⟨_,rfl,λj u hj=>by
  cases j with
  |zero=>cases hj;exact hc
  |succ j=>cases hj⟩)
 obtain⟨off,cap,arr,rfl,h2,h3,h4,h5⟩:=hw.a;obtain⟨y',w',b',bm,hW,hb',hC⟩:∃yv w' b',(Builtin.append_ #[t,t] o.type #[.slice (some ⟨b,off,none⟩) li.length cap,.slice (some ⟨c,0,none⟩) 1 1]).run P w=.ok yv w'/\tq w' yv b' (li++ [n])/\(b'=b\/w.heap.size<=b'/\b'<w'.heap.size)/\cw (· =b) w w':=by
  by_cases vn:li.length+1<=cap
  ·have hr:=src.d i hi (by simp[ir]) (by simp;rfl) ab b off li.length cap arr h2 vn (by rw[ir];simp;omega);refine⟨_,_,b,hr,⟨off,cap,_,aB,Et w b arr _ 3 _ h2,?_,by simpa using vn,λq m hq=> ?_⟩,.inl rfl,⟨rfl,rfl,rfl,aB,λk _ hk=>Es w b k _ hk⟩⟩
   ·rw[ir];simp;omega
   ·rw[ir,tE,Nat.mul_one];rcases od q li.length with cC |BP
    ·rw[lZ cC]at hq;rw[jb,lZ (by simp;omega),rP,if_pos ab];have:=h5 q m hq;simpa using this
    ·have aMs:q=li.length:=by have:=(List.getElem?_eq_some_iff.1 hq).1;simp at this;omega
     subst aMs;rw[kx ab,ni]at hq;cases hq;rw[jb,kx (by simp;omega)];have:(List.take (off+li.length) arr.toList).length=off+li.length:=by simp;omega
     rw[this,ni];rfl
  ·have fQ:cap=li.length:=ab;have l4:z.cells.size=i.size:=by
    have h3:=row.U (T:=λ_=>aJ 3) (w:=w) (O:=λ_=>False) w bh;obtain⟨z',h4,_,_,h5⟩:=h3;have:(zeroValue 3).run P w=.ok z w:=by simp[zeroValue,typeInfo,hi,hz]
    rw[this]at h4;simp only[Result.ok.injEq,tv]at h4;subst h4;rw[ir];exact h5
   have hr:=src.f i z hi hz (by simp[ir]) ab ⟨b,off,none⟩ li.length cap (li.map λn=>Value.int .i64 n) (by simp[ir]) (λq v hq=>by
    rw[i_];rw[fX]at hq;cases hm:li[q]? with
    |none=>rw[hm]at hq;cases hq
    |some m=>
     rw[hm]at hq;cases hq;simp only[World.cell?,h2];exact h5 q m hm) ab ab (XU ab (by rw[xu];omega))
   have BP:=M6 w (li.length+1) cap 3;refine⟨_,_,w.heap.size,hr,⟨0,grownCap w (li.length+1) cap 3,_,aB,ji w.drew _,?_,by simpa using BP,λq m hq=> ?_⟩,.inr ⟨bj _,aB⟩,⟨rfl,rfl,rfl,aB,λk hk _=>zZ w.drew _ hk⟩⟩
   ·simp only[HM,Er,XT,l4,ir,gR,List.length_singleton];omega
   ·rw[gF,Ez (by
     have:=(List.getElem?_eq_some_iff.1 hq).1;simpa using this)]
    have:(li.map (λn=>Value.int .i64 n)).toArray++ #[Value.int .i64 n]=((li++ [n]).map λn=>Value.int .i64 n).toArray:=aB;rw[this,tE,fX,hq];rfl
 refine lK ho hs hN (x:=y') (w':=w') ?_ λa' s'=>h a' w' y' b' s' hW hb' hC;simp[execOp,ho.a,resolve,invoke,builtin,hs.I hx,hs.I hy,bm,Result.andThen]
end
end
end Go.Proofs.YtkcikbcpjdccmaaGreatDoor
