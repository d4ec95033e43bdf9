/- A part of the proof. -/
import Derived.Test.YtkcikbcpjdccmaaGreatDoorSA
set_option linter.all false
namespace Go.Proofs.YtkcikbcpjdccmaaGreatDoor
open Go Go.AH Go.RowKit Go.Proofs.Tryz
open Go.IntKind (i64)
set_option maxRecDepth 100000
noncomputable section
variable{k num:Int}{nm:List UInt8}{n:Int}{m:Nat}{l ps bo:List aa}{ca:List UInt8}{ar el:List aa}{a:Int}{t:TypeId}{v:aa}{f e d:Int}
def ar7:=aR 233 Qc ae
def ar8:=aR 190 Qd ae
def ar9:=aR 158 Qe ae
def K9:=aR 189 Ak ae
def ar_:=aR 211 Qf ae
def asa:=aR 174 Qg ae
def yF(a:Bool)(b c d e:Int):aa:=.u [.p a,.c .i64 b,.c .i64 c,.c .i64 d,.c .i64 e]
def Gn:List aa:=[yF false 0 0 0 0,yF false 0 0 (-1) 0,yF false 0 0 1 0,yF true 0 0 0 0,yF false 14 15 0 1,yF false 1 13 0 2,yF true 0 0 0 1,yF true 0 0 0 0]
def SY:aq| [],[]=>.g (.a (.d 321 Gn) []) |_,_=>.d
def asb:(aI (ay an (aL []) Qc aK) false f233 [] []).D=some (.a (.d 321 Gn) []):=ae
def asc:aH 233 SY:=bI aQ ar7 λp q r h=>by
 unfold SY at h;split at h
 ·exact asb.trans h
 ·cases h
def adK:FuncId->aq:=aL [(233,SY),(63,wv)]
def asd:∀k,aH k (adK k):=aA asc (aA yE aQ)
def b9(k op num:Int)(nm:List UInt8)(ar:List aa):aa:=.u [.c .i64 k,.c .i64 op,.c .i64 num,.h nm,.d 177 ar]
def ase(k op num nm ar):(aI (ay an adK Qd aK) false f190 [b9 k op num nm ar] []).D=((letI ai:=(↑(nat_lit 8):Int);letI ak:af aC:=al (.p false) [];letI aw:=Gn.getD k.toNat .m;letI aS:af aC:=al (.p ((↑ar.length:Int)==(aw.D 4).I)) [];letI bx:af aC:=.c (decide (op>=(aw.D 1).I)) (.c (decide (op<=(aw.D 2).I)) (.c (decide (num>=0)) (.c (!decide ((aw.D 3).I<0)) (.c (decide (num<=(aw.D 3).I)) aS ak) aS) ak) ak) ak;af.c (!decide (k<1)) (.c (decide (k>=ai)) ak (.c (decide (0<=k) &&decide (k<ai)) (.c (!!(aw.D 0).b_== !nm==[]) (.c ((aw.D 0).b_) (.c (!jX nm) ak bx) bx) ak) .d)) ak):af aC).D:=ae
def uB(k:Int)(i:Nat):aa:=(Gn.getD k.toNat aa.m).D i
def yG(k op num:Int)(nm:List UInt8)(n:Nat):Bool:=
 !decide (k<1) && !decide (k>=8) && ((uB k 0).b_== !(nm==[])) && (!(uB k 0).b_ ||jX nm) &&decide (op>=(uB k 1).I) &&decide (op<=(uB k 2).I) &&decide (num>=0) && (decide ((uB k 3).I<0) ||decide (num<=(uB k 3).I)) && ((n:Int)==(uB k 4).I)
def SZ:aq
 | [.u [.c .i64 k,.c .i64 op,.c .i64 num,.h nm,.d 177 ar]],[]=>.g (.a (.p (yG k op num nm ar.length)) [])
 |_,_=>.d
def asf:aH 190 SZ:=bI asd ar8 λp q r h=>by
 unfold SZ at h;split at h
 ·rename_i k op num nm ar;refine(ase k op num nm ar).trans (bS ?_ h);unfold yG uB;generalize Gn.getD k.toNat aa.m=x;by_cases h1:k<1
  ·simp[h1,dA,fU]
  ·by_cases h2:k>=8
   ·simp[h1,h2,dA,fU]
   ·have h3:(decide ((0:Int)<=k) &&decide (k<8))=true:=by simp;omega
    have h3':(decide ((0:Int)<=k) &&decide (k<(↑(nat_lit 8):Int)))=true:=h3;have h2':¬k>=(↑(nat_lit 8):Int):=h2;simp only[h1,h2,h2',h3',dA,fU,HT,u_,if_true,qJ,xi,xj];generalize(x.D 0).b_=a;generalize jX nm=b;generalize(nm==[])=c;by_cases h4:op>=(x.D 1).I<;>by_cases h5:op<=(x.D 2).I<;>by_cases h6:num>=0<;>by_cases h7:(x.D 3).I<0<;>by_cases h8:num<=(x.D 3).I<;>cases a<;>cases b<;>cases c<;>simp[h4,h5,h6,h7,h8]
 ·cases h
def sR(f:aa->Int):List aa->Int->Int
 | [],d=>d+1
 |x::r,d=>if f x=0 then 0 else sR f r (max d (f x))
def cW:Nat->aa->Int
 |0,_=>0
 |m+1,e=>if yG (e.D 0).I (e.D 1).I (e.D 2).I (e.D 3).bJ (e.D 4).U.length=true then sR (cW m) (e.D 4).U 0 else 0
def S1{f:aa->Int}{m:Int}(hf:∀x,0<=f x/\f x<=m):∀(l:List aa)(d:Int),0<=d->d<=m->0<=sR f l d/\sR f l d<=m+1
 | [],d,h0,h1=>by unfold sR;omega
 |x::r,d,h0,h1=>by
  unfold sR;have:=hf x;split
  ·omega
  ·exact S1 hf r _ ab ab
def adL:∀(m:Nat)(e:aa),0<=cW m e/\cW m e<=m
 |0,e=>by simp[cW]
 |m+1,e=>by
  unfold cW;split
  ·have:=S1 (adL m) (e.D 4).U 0 ab ab;omega
  ·omega
def Gp(m:Nat):aq
 | [.u [.c .i64 k,.c .i64 op,.c .i64 num,.h nm,.d 177 ar],.c .i64 q,.e 0 0],[.a false [.z 189 [] [.e 0 0]]]=>
  .I (decide (q<(m:Int)) &&decide (0<=q)) (.g (.a (.c .i64 (cW q.toNat (b9 k op num nm ar))) [.a false [.z 189 [] [.e 0 0]]]))
 |_,_=>.d
def K_(m:Nat):FuncId->aq:=aL [(190,SZ),(189,Gp m)]
def adM(m q d len i ar):(cB (ay an (K_ m) Ak aK) 1 5 (cq Ak 0) [ah q,.e 0 0,ah d,.d 177 ar,ah len,ah i] [az [.z 189 [] [.e 0 0]]]).D=((letI ai:=i64.wrap (q-1);letI ak:=ar.getD i.toNat .m;letI aw:=b9 (ak.D 0).I (ak.D 1).I (ak.D 2).I (ak.D 3).bJ (ak.D 4).U;letI aS:List aj:=[az [.z 189 [] [.e 0 0]]];af.c (decide (i<len)) (.c (decide (0<=i) &&decide (i<(↑ar.length:Int))) (.c (decide (i64.wrap (q-1)<(↑m:Int)) &&decide (0<=i64.wrap (q-1))) (.c (cW ai.toNat aw==0) (.g ((.c,[ah 0,ah d],aS))) (.g ((.b,[ah q,.e 0 0,ah (match decide (cW ai.toNat aw>d)with |true=>cW ai.toNat aw |false=>d),.d 177 ar,ah len,ah (i64.wrap (i+1))],aS)))) .d) .d) (.g ((.a 0,[.m,ah d],aS)))):af (aU×List aa×List aj)).D:=ae
def Ld{op:Int}{n:Nat}(h:yG k op num nm n=true):n<=2/\1<=k/\k<8/\(n:Int)=(uB k 4).I:=by unfold yG at h;simp only[au,kr,BB,qM]at h;obtain⟨⟨⟨⟨⟨⟨⟨⟨h1,h2⟩,_⟩,_⟩,_⟩,_⟩,_⟩,_⟩,h3⟩:=h;have hk:k=1\/k=2\/k=3\/k=4\/k=5\/k=6\/k=7:=ab;refine⟨?_,ab,ab,h3⟩;rcases hk with rfl |rfl |rfl |rfl |rfl |rfl |rfl<;>(change(n:Int)=_ at h3;revert h3;first | (intro h3;have:(n:Int)=0:=h3;omega) | (intro h3;have:(n:Int)=1:=h3;omega) | (intro h3;have:(n:Int)=2:=h3;omega))
def qs(f:aa->Int):List aa->Int->Bool×Int
 | [],d=>(false,d)
 |x::r,d=>if f x=0 then(true,d)else qs f r (max d (f x))
def S2(f:aa->Int):∀(l:List aa)(d:Int),sR f l d=if(qs f l d).1=true then 0 else(qs f l d).2+1
 | [],d=>rfl
 |x::r,d=>by
  unfold sR qs;split
  ·rfl
  ·exact S2 f r _
def Le(m:Nat)(x):cW m (b9 (x.D 0).I (x.D 1).I (x.D 2).I (x.D 3).bJ (x.D 4).U)=cW m x:=by cases m<;>rfl
def wx:List aj:=[.a false [.z 189 [] [.e 0 0]]]
def adN(w:Bool×Int):aU×List aa×List aj:=match w.1 with
 |true=>(.c,[.c .i64 0,.c .i64 w.2],wx)
 |false=>(.a 0,[.m,.c .i64 w.2],wx)
def adO(m q:Nat)(ar)(hm:q<m)(hq:q<=100)(hl:ar.length<=2):∀(k n:Nat)(d:Int),n+k=ar.length->
  bw an (K_ m) Ak 1 5 [.c .i64 ((q+1:Nat):Int),.e 0 0,.c .i64 d,.d 177 ar,.c .i64 (ar.length:Int),.c .i64 n] wx (adN (qs (cW q) (ar.drop n) d))
 |0,n,d,h=>by
  refine bw.D K9 0 ae ae cv ((adM m _ d _ n ar).trans ?_) (y:=(.a 0,[.m,.c .i64 d],wx)) ?_
  ·rw[dA,if_neg (by rw[bC];omega)];rfl
  ·rw[tz ab];rfl
 |k+1,n,d,h=>by
  have hn:n<ar.length:=ab;have hd:ar.drop n=ar[n]::ar.drop (n+1):=oY hn;have hg:ar.getD n .m=ar[n]:=by rw[dD,cV hn];rfl
  have hw:i64.wrap (((q+1:Nat):Int)-1)=(q:Int):=by rw[ep ab ab];omega
  have step:=adM m ((q+1:Nat):Int) d (ar.length:Int) n ar;rw[hw,dE,dE,hg,Le,ep (n:=(n:Int)+1) ab ab]at step;have t1:decide ((n:Int)<(ar.length:Int))=true:=aD ab;have t2:(decide ((0:Int)<=(n:Int)) &&decide ((n:Int)<(ar.length:Int)))=true:=by rw[t1,aD ab];rfl
  have t3:(decide ((q:Int)<(m:Int)) &&decide ((0:Int)<=(q:Int)))=true:=by rw[aD ab,aD ab];rfl
  rw[t2,t1,t3]at step;by_cases hz:cW q ar[n]=0
  ·refine bw.D K9 0 ae ae cv (step.trans ?_) (y:=(.c,[.c .i64 0,.c .i64 d],wx)) ?_
   ·simp only[dA,fU,hz];rfl
   ·rw[hd,qs,if_pos hz];rfl
  ·refine bw.D K9 0 ae ae cv (step.trans ?_) (y:=(.b,[.c .i64 ((q+1:Nat):Int),.e 0 0,.c .i64 (max d (cW q ar[n])),.d 177 ar,.c .i64 (ar.length:Int),.c .i64 ((n+1:Nat):Int)],wx)) ?_
   ·have hz':(cW q ar[n]==0)=false:=by simpa using hz
    simp only[dA,fU,hz'];by_cases akp:cW q ar[n]>d
    ·rw[aD akp,show max d (cW q ar[n])=cW q ar[n]from ab];rfl
    ·rw[ly akp,show max d (cW q ar[n])=d from ab];rfl
   ·rw[hd,qs,if_neg hz];exact adO m q ar hm hq hl k (n+1) _ ab
def S3(M:Nat):dk:=λm key vs os=>match vs,os with
 | [.c .i64 q,.e 0 0,.c .i64 0,.d 177 ar,.c .i64 len,.c .i64 0],[.a false [.z 189 [] [.e 0 0]]]=>
  .I (decide (q<=(M:Int)) &&decide (1<=q) &&decide (q<=100) &&decide (len=(ar.length:Int)) &&decide (ar.length<=2) &&Nat.beq m 1 &&Nat.beq key 5)
   (.c (qs (cW (q-1).toNat) ar 0).1 (.g (.c,[.c .i64 0,.c .i64 (qs (cW (q-1).toNat) ar 0).2],wx)) (.g (.a 0,[.m,.c .i64 (qs (cW (q-1).toNat) ar 0).2],wx)))
 |_,_=>.d
def ash(M:Nat):cJ an (K_ M) Ak (S3 M):=by
 intro m key vs os r h;unfold S3 at h;split at h
 ·rename_i q ar len;obtain⟨h1,h2⟩:=aO h;simp only[au,bC,aNx]at h1;obtain⟨⟨⟨⟨⟨⟨hM,pO⟩,vh⟩,rfl⟩,hl⟩,rfl⟩,rfl⟩:=h1;obtain⟨p,rfl⟩:∃p:Nat,q=((p+1:Nat):Int):=⟨(q-1).toNat,ab⟩
  have e2:(((p+1:Nat):Int)-1).toNat=p:=ab;rw[e2]at h2;have h3:=adO M p ar ab ab hl ar.length 0 0 ab;rw[oc]at h3;unfold adN at h3;cases hb:(qs (cW p) ar 0).1<;>rw[hb]at h2 h3<;>simp only[af.D,Option.some.injEq]at h2<;>subst h2<;>exact h3
 ·simp[af.D]at h
def asi(M k op num q nm ar):(aI (ay an (K_ M) Ak (S3 M)) false f189 [b9 k op num nm ar,ah q,.e 0 0] wx).D=((letI ai:List aj:=[az [.z 189 [] [.e 0 0]]];letI ak:af aC:=al (ah 0) ai;letI aw:=(↑ar.length:Int);letI aS:=qs (cW (q-1).toNat) ar 0;af.c (!decide (q<1)) (.c (!yG k op num nm ar.length) ak (.c (decide (q<=(↑M:Int)) &&decide (1<=q) &&decide (q<=100) &&decide (aw=aw) &&decide (ar.length<=2) &&Nat.beq 1 1 &&Nat.beq 5 5) (.c (aS.fst) ak (al (ah (i64.wrap (aS.snd+1))) ai)) .d)) ak):af aC).D:=ae
def adP(k op num:Int)(nm ar)(m:Nat):cW (m+1) (b9 k op num nm ar)=if yG k op num nm ar.length=true then sR (cW m) ar 0 else 0:=rfl
def adQ:∀M:Nat,M<=101->aH 189 (Gp M)
 |0,_=>λargs ao out h=>by
  unfold Gp at h;split at h
  ·obtain⟨h1,_⟩:=aO h;simp only[au,bC]at h1;omega
  ·simp[af.D]at h
 |M+1,hM=>dN aW c_ (aA asf (aA (adQ M ab) aQ)) K9 rfl (ash M) λr u v h=>by
  unfold Gp at h;split at h
  ·rename_i k op num nm ar q;obtain⟨h1,h2⟩:=aO h;simp only[au,bC]at h1;obtain⟨h3,h4⟩:=h1;refine(asi M k op num q nm ar).trans (bS ?_ h2);obtain⟨p,rfl⟩:=HR h4;rw[dE];cases p with
   |zero=>rfl
   |succ p=>
    have e1:¬((p+1:Nat):Int)<1:=ab;have e2:(((p+1:Nat):Int)-1).toNat=p:=ab;rw[adP,ly e1,e2];cases hf:yG k op num nm ar.length with
    |false=>rfl
    |true=>
     have hl:=(Ld hf).1;have t:(decide (((p+1:Nat):Int)<=(M:Int)) &&decide ((1:Int)<=((p+1:Nat):Int)) &&decide (((p+1:Nat):Int)<=100) &&decide ((ar.length:Int)=(ar.length:Int)) &&decide (ar.length<=2) &&Nat.beq (nat_lit 1) 1 &&Nat.beq (nat_lit 5) 5)=true:=by rw[aD (show((p+1:Nat):Int)<=(M:Int)from ab),aD (show(1:Int)<=((p+1:Nat):Int)from ab),aD (show((p+1:Nat):Int)<=100 from ab),aD (show(ar.length:Int)=(ar.length:Int)from rfl),aD (show ar.length<=2 from hl)];rfl
     rw[t,S2];have hb:=S1 (adL p) ar 0 ab ab;rw[S2]at hb;cases hw:(qs (cW p) ar 0).1 with
     |true=>rfl
     |false=>rw[hw]at hb;simp only[xi,xj]at hb;simp only[dA,fU,u_,zm,if_true,xi,xj];rw[ep ab ab]
  ·cases h
def Lf:aq
 | [.u [.c .i64 k,.c .i64 op,.c .i64 num,.h nm,.d 177 ar]],[]=>.g (.a (.c .i64 (cW 20 (b9 k op num nm ar))) [])
 |_,_=>.d
def asj(k op num nm ar):(aI (ay an (aL [(189,Gp 21)]) Qe aK) false f158 [b9 k op num nm ar] []).D=((af.g (aC.a (aa.c IntKind.i64 (cW (Int.toNat (20:Int)) (b9 k op num nm ar))) []))).D:=ae
def adR:aH 158 Lf:=bI (aA (adQ 21 ab) aQ) ar9 λp q r h=>by
 unfold Lf at h;split at h
 ·exact(asj _ _ _ _ _).trans h
 ·cases h
def eY(b:Bool):Int:=match b with |true=>0 |false=>2
def S4:aq| [.p b],[]=>.g (.a (.c .i64 (eY b)) []) |_,_=>.d
def asl(b):(aI (ay an (aL []) Qf aK) false f211 [.p b] []).D=((af.c (!b)
 (.g (aC.a (aa.c IntKind.i64 (2:Int)) []))
 (.g (aC.a (aa.c IntKind.i64 (0:Int)) [])))).D:=ae
def asm:aH 211 S4:=bI aQ ar_ λp q r h=>by
 unfold S4 at h;split at h
 ·refine(asl _).trans (bS ?_ h);rename_i b;cases b<;>rfl
 ·cases h
def lM(e:aa):Bool:=decide (cW 20 e>0)
def Gq:aq
 | [.u [.c .i64 k,.c .i64 op,.c .i64 num,.h nm,.d 177 ar]],[]=>.g (.a (.c .i64 (eY (lM (b9 k op num nm ar)))) [])
 |_,_=>.d
def asn(k op num nm ar):(aI (ay an (aL [(158,Lf),(211,S4)]) Qg aK) false f174 [b9 k op num nm ar] []).D=((af.g (.a (ah (eY (decide (cW 20 (b9 k op num nm ar)>0)))) []))).D:=ae
def S5:aH 174 Gq:=bI (aA adR (aA asm aQ)) asa λp q r h=>by
 unfold Gq at h;split at h
 ·exact(asn _ _ _ _ _).trans h
 ·cases h
def aso:=aR 154 Qh ae
def asp:=aR 155 Qi ae
def asq:=aR 64 Qj ae
def asr:=aR 109 Qk ae
def ass:=aR 157 Ql ae
def sS(a b c d e f:Bool)(g h:Int):aa:=.u [.p a,.p b,.p c,.p d,.p e,.p f,.c .i64 g,.c .i64 h]
def AM:List aa:=[sS false false false false false false 0 0,sS true false true false false false 0 1,sS true false false false false false 1 1,sS true false false false false false 2 2,sS true false false false false false 1 1,sS true false false false false false 0 0,sS false false false false false false 1 1,sS false true false true false false 0 8,sS false false false false false false 0 1,sS false false false false true true 1 1,sS false false false false true false 1 1]
def S6:aq| [],[]=>.g (.a (.d 236 AM) []) |_,_=>.d
def ast:(aI (ay an (aL []) Qh aK) false f154 [] []).D=some (.a (.d 236 AM) []):=ae
def asu:aH 154 S6:=bI aQ aso λp q r h=>by
 unfold S6 at h;split at h
 ·exact ast.trans h
 ·cases h
def qu(t:Int):Bool:=decide (t>=1) &&decide (t<=3)
def Gr:aq| [.c .i64 t],[]=>.g (.a (.p (qu t)) []) |_,_=>.d
def asv(t):(aI (ay an (aL []) Qj aK) false f64 [ah t] []).D=((af.c (decide (t>=1))
 (.g (aC.a (aa.p (decide (t<=3))) []))
 (.g (aC.a (aa.p false) [])))).D:=ae
def S7:aH 64 Gr:=bI aQ asq λp q r h=>by
 unfold Gr at h;split at h
 ·rename_i t;refine(asv _).trans (bS ?_ h);unfold qu;cases decide (t>=1)<;>rfl
 ·cases h
def yH(s:List UInt8)(a b:Bool):Bool:=jX s && (a ||b) || (s==[]) && !a
def S8:aq| [.h s,.p a,.p b],[]=>.g (.a (.p (yH s a b)) []) |_,_=>.d
def asw(s a b):(aI (ay an (aL [(63,wv)]) Qi aK) false f155 [.h s,.p a,.p b] []).D=((af.c (jX s) (.c (!a) (.c (!b) (.c (s==[]) (al (.p !a) []) (al (.p false) [])) (al (.p true) [])) (al (.p true) [])) (.c (s==[]) (al (.p !a) []) (al (.p false) [])))).D:=ae
def asx:aH 155 S8:=bI (aA yE aQ) asp λp r u h=>by
 unfold S8 at h;split at h
 ·rename_i s a b;refine(asw _ _ _).trans (bS ?_ h);unfold yH;generalize jX s=n;generalize(s==[])=q;cases n<;>cases q<;>cases a<;>cases b<;>rfl
 ·cases h
def AN(e:aa):Bool:=cW 20 e==0
def S9:aq
 | [.u [.c .i64 k,.c .i64 op,.c .i64 num,.h nm,.d 177 ar]],[]=>.g (.a (.p (AN (b9 k op num nm ar))) [])
 |_,_=>.d
def asy(k op num nm ar):(aI (ay an (aL [(158,Lf)]) Ql aK) false f157 [b9 k op num nm ar] []).D=((af.g (aC.a (aa.p (cW (20:Nat) (b9 k op num nm ar)==0)) []))).D:=ae
def asz:aH 157 S9:=bI (aA adR aQ) ass λp q r h=>by
 unfold S9 at h;split at h
 ·exact(asy _ _ _ _ _).trans h
 ·cases h
def S_:FuncId->aq:=aL [(157,S9)]
def bB(v:aa):aa:=b9 (v.D 0).I (v.D 1).I (v.D 2).I (v.D 3).bJ (v.D 4).U
def adS:=aR 188 C8 ae
def wy:aa->Bool:=λv=>AN (bB v)
def asA(vs len n):(cB (ay an S_ C8 aK) 0 2 (cq C8 0) [.d 177 vs,.z 157 [] [],ah len,ah n] []).D=((af.c (decide (n<len)) (.c (decide (0<=n) &&decide (n<(↑vs.length:Int))) (.c (AN (bB (vs.getD n.toNat .m))) (.g ((.c,[ah n],[]))) (.g ((.b,[.d 177 vs,.z 157 [] [],ah len,ah (i64.wrap (n+1))],[])))) .d) (.g ((.a 0,[.m],[]))))).D:=ae
def Ta:dk:=λm key vs os=>match vs,os with
 | [.d 177 vs,.z 157 [] [],.c .i64 len,.c .i64 0],[]=>.I (decide (len=(vs.length:Int)) &&decide (vs.length<=bP) &&Nat.beq m 0 &&Nat.beq key 2) (CU (bc (wy) vs 0))
 |_,_=>.d
def asB:cJ an S_ C8 Ta:=by
 intro m key vs os r h;unfold Ta at h;split at h
 ·rename_i vs len;obtain⟨h1,h2⟩:=aO h;simp only[au,bC,aNx]at h1;obtain⟨⟨⟨rfl,hs⟩,rfl⟩,rfl⟩:=h1;rw[FQ]at h2;injection h2 with h2;subst h2;exact FR adS 0 ae ae cv (λn=> [.d 177 vs,.z 157 [] [],.c .i64 vs.length,.c .i64 n]) (wy) vs hs (λn=>asA vs _ n) vs.length 0 ab
 ·simp[af.D]at h
def Tb:aq| [.d 177 vs,.z 157 [] []],[]=>.I (decide (vs.length<=bP)) (.g (.a (.c .i64 (fH (bc (wy) vs 0))) [])) |_,_=>.d
def asC(vs):(aI (ay an S_ C8 Ta) false f188 [.d 177 vs,.z 157 [] []] []).D=((af.c (decide ((↑vs.length:Int)=(↑vs.length:Int)) &&decide (vs.length<=cg) &&Nat.beq 0 0 &&Nat.beq 2 2) (.c ((bc wy vs 0).isSome) (al (ah (↑((bc wy vs 0).getD 0):Int)) []) (al (ah (-1:Int)) [])) .d)).D:=ae
def asD:aH 188 Tb:=dN aW c_ (aA asz aQ) adS rfl asB λp q r h=>by
 unfold Tb at h;split at h
 ·obtain⟨h1,h2⟩:=aO h;refine(asC _).trans ?_;rw[<-h2];simp only[dA,fU];rw[if_pos (by simpa using (show _<=9223372036854775807 from ff h1))];cases bc _ _ 0<;>rfl
 ·cases h
def asE:=aR 156 Qm ae
def Tc:aq| [.d 177 vs,.z 157 [] []],[]=>.I (decide (vs.length<=bP)) (.g (.a (.p (bc (wy) vs 0).isSome) [])) |_,_=>.d
def asF(vs):(aI (ay an (aL [(188,Tb)]) Qm aK) false f156 [.d 177 vs,.z 157 [] []] []).D=((af.c (decide (vs.length<=cg)) (al (.p (decide (fH (bc wy vs 0)>=0))) []) .d)).D:=ae
def asG:aH 156 Tc:=bI (aA asD aQ) asE λp q r h=>by
 unfold Tc at h;split at h
 ·obtain⟨h1,h2⟩:=aO h;refine(asF _).trans ?_;rw[<-h2];simp only[dA,fU];rw[if_pos (by simpa using (show _<=9223372036854775807 from ff h1))];cases bc _ _ 0<;>simp[fH]
 ·cases h
def dL(k no:Int)(nm:List UInt8)(ty:Int)(ca:List UInt8)(ar bo el:List aa):aa:=.u [.c .i64 k,.c .i64 no,.h nm,.c .i64 ty,.h ca,.d 177 ar,.d 97 bo,.d 97 el]
def adT:FuncId->aq:=aL [(154,S6),(155,S8),(64,Gr),(156,Tc)]
def asH:∀k,aH k (adT k):=aA asu (aA asx (aA S7 (aA asG aQ)))
def asI(k no nm ty ca ar bo el):(aI (ay an adT Qk aK) false f109 [dL k no nm ty ca ar bo el] []).D=((letI ai:=(↑(nat_lit 11):Int);letI ak:af aC:=al (.p false) [];letI aw:=AM.getD k.toNat .m;letI aS:=(↑ar.length:Int);letI bx:af aC:=.c (decide (aS<(aw.D 6).I)) ak (.c (decide (aS>(aw.D 7).I)) ak (.c (decide (ar.length<=cg)) (al (.p !(bc wy ar 0).isSome) []) .d));letI bX:af aC:=.c (!(aw.D 5).b_) (.c (decide ((↑el.length:Int)>0)) ak bx) bx;letI cI:af aC:=.c (!(aw.D 4).b_) (.c (decide ((↑bo.length:Int)>0)) ak bX) bX;letI fi:af aC:=.c (!(aw.D 2).b_) (.c (ty !=0) ak cI) cI;af.c (!decide (k<1)) (.c (decide (k>=ai)) ak (.c (decide (0<=k) &&decide (k<ai)) (.c (!yH nm (aw.D 0).b_ (aw.D 1).b_) ak (.c (!yH ca (aw.D 3).b_ false) ak (.c ((aw.D 2).b_) (.c (!qu ty) ak fi) fi))) .d)) ak):af aC).D:=ae
def adU:∀n:Nat,((AM.getD n aa.m).D 7).I<=8
 |0=>av
 |1=>av
 |2=>av
 |3=>av
 |4=>av
 |5=>av
 |6=>av
 |7=>av
 |8=>av
 |9=>av
 |10=>av
 |n+11=>by
  rw[dD,kY (by simp[AM])]
  decide
def uC(k:Int)(i:Nat):aa:=(AM.getD k.toNat aa.m).D i
def qv(k:Int)(nm:List UInt8)(ty:Int)(ca:List UInt8)(ar bo el:List aa):Bool:=
 !decide (k<1) && !decide (k>=11) &&yH nm (uC k 0).b_ (uC k 1).b_ &&yH ca (uC k 3).b_ false && (bif (uC k 2).b_ then qu ty else !(ty !=0)) && ((uC k 4).b_ || !decide ((bo.length:Int)>0)) && ((uC k 5).b_ || !decide ((el.length:Int)>0)) &&
  !decide ((ar.length:Int)<(uC k 6).I) && !decide ((ar.length:Int)>(uC k 7).I) && !(bc wy ar 0).isSome
def Td:aq
 | [.u [.c .i64 k,.c .i64 _,.h nm,.c .i64 ty,.h ca,.d 177 ar,.d 97 bo,.d 97 el]],[]=>.g (.a (.p (qv k nm ty ca ar bo el)) [])
 |_,_=>.d
def asJ:aH 109 Td:=bI asH asr λp q r h=>by
 unfold Td at h;split at h
 ·rename_i k no nm ty ca ar bo el;refine(asI k no nm ty ca ar bo el).trans (bS ?_ h);have h7:=adU k.toNat;unfold qv uC;generalize AM.getD k.toNat aa.m=x at h7⊢;by_cases h1:k<1
  ·simp[h1,dA,fU]
  ·by_cases h2:k>=11
   ·simp[h1,h2,dA,fU]
   ·have h3:(decide ((0:Int)<=k) &&decide (k<(↑(nat_lit 11):Int)))=true:=by rw[aD ab,aD (show k<(↑(nat_lit 11):Int)from(show k<11 from ab))];rfl
    have h2':¬k>=(↑(nat_lit 11):Int):=h2;simp only[h1,h2,h2',h3,dA,fU,HT,u_,if_true,qJ,xi,xj];cases yH nm (x.D 0).b_ (x.D 1).b_ with
    |false=>simp
    |true=>
     cases yH ca (x.D 3).b_ false with
     |false=>simp
     |true=>
      by_cases g6:(ar.length:Int)<(x.D 6).I
      ·cases(x.D 2).b_<;>cases qu ty<;>cases(ty !=0)<;>cases(x.D 4).b_<;>cases(x.D 5).b_<;>cases decide ((bo.length:Int)>0)<;>cases decide ((el.length:Int)>0)<;>simp[g6]
      ·by_cases g7:(ar.length:Int)>(x.D 7).I
       ·cases(x.D 2).b_<;>cases qu ty<;>cases(ty !=0)<;>cases(x.D 4).b_<;>cases(x.D 5).b_<;>cases decide ((bo.length:Int)>0)<;>cases decide ((el.length:Int)>0)<;>simp[g6,g7]
       ·have g8:decide (ar.length<=nat_lit 9223372036854775807)=true:=aD (show ar.length<=9223372036854775807 from ab);simp only[g6,g7,g8,HT,u_,Nl,if_true,xi,xj];cases(x.D 2).b_<;>cases qu ty<;>cases(ty !=0)<;>cases(x.D 4).b_<;>cases(x.D 5).b_<;>cases decide ((bo.length:Int)>0)<;>cases decide ((el.length:Int)>0)<;>simp
 ·cases h
def asK:=aR 67 Qn ae
def Lg:=aR 108 yp ae
def dp(s:aa):Int:=(s.D 0).I
def bZ(s:aa):Int:=(s.D 1).I
def eI(s:aa):List UInt8:=(s.D 2).bJ
def iD(s:aa):Int:=(s.D 3).I
def jJ(s:aa):List UInt8:=(s.D 4).bJ
def dG(s:aa):List aa:=(s.D 5).U
def aP(s:aa):List aa:=(s.D 6).U
def bf(s:aa):List aa:=(s.D 7).U
def lj(s:aa):Bool:=qv (dp s) (eI s) (iD s) (jJ s) (dG s) (aP s) (bf s)
def eZ(f:List aa->Int->Bool×Int):List aa->Int->Bool×Int
 | [],n=>(true,n)
 |s::r,n=>if n+1>200\/lj s=false then(false,n+1)else
  if(f (aP s) (n+1)).1=false then(false,(f (aP s) (n+1)).2)else
  if(f (bf s) (f (aP s) (n+1)).2).1=false then(false,(f (bf s) (f (aP s) (n+1)).2).2)else eZ f r (f (bf s) (f (aP s) (n+1)).2).2
def bn:Nat->List aa->Int->Bool×Int
 |0,l,n=>(l.isEmpty,n)
 |m+1,l,n=>eZ (bn m) l n
def Dq(n:Int):List aj:=[.a false [.c .i64 n],.a false [.z 108 [] [.e 0 0,.e 1 0]]]
def Gs(m:Nat):aq
 | [.d 97 l,.c .i64 q,.e 0 0,.e 1 0],[.a false [.c .i64 n],.a false [.z 108 [] [.e 0 0,.e 1 0]]]=>
  .I (decide (q<(m:Int)) &&decide (0<=q) &&decide (0<=n) &&decide (n<=200)) (.g (.a (.p (bn q.toNat l n).1) [.a false [.c .i64 (bn q.toNat l n).2],.a false [.z 108 [] [.e 0 0,.e 1 0]]]))
 |_,_=>.d
def Gt(m:Nat):FuncId->aq:=aL [(109,Td),(108,Gs m)]
def Te(m q len i n l):(cB (ay an (Gt m) yp aK) 2 4 (cq yp 0) [ah q,.e 0 0,.e 1 0,.d 97 l,ah len,ah i] (Dq n)).D=((letI ai:=l.getD i.toNat .m;letI ak:=i64.wrap (q-1);letI aw:=i64.wrap (n+1);letI aS:=bn ak.toNat (ai.D 6).U aw;letI bx:=bn ak.toNat (ai.D 7).U aS.snd;letI bX:List aa:=[.z 108 [] [.e 0 0,.e 1 0]];letI cI:List aj:=[az [ah bx.snd],az bX];letI fi:af (aU×List aa×List aj):=.g ((.c,[.p false],[az [ah aw],az bX]));af.c (decide (i<len)) (.c (decide (0<=i) &&decide (i<(↑l.length:Int))) (.c (!decide (i64.wrap (n+1)>200)) (.c (!!qv (ai.D 0).I (ai.D 2).bJ (ai.D 3).I (ai.D 4).bJ (ai.D 5).U (ai.D 6).U (ai.D 7).U) (.c (decide (i64.wrap (q-1)<(↑m:Int)) &&decide (0<=i64.wrap (q-1)) &&decide (0<=i64.wrap (n+1)) &&decide (i64.wrap (n+1)<=200)) (.c (!!aS.fst) (.c (decide (i64.wrap (q-1)<(↑m:Int)) &&decide (0<=i64.wrap (q-1)) &&decide (0<=aS.snd) &&decide (aS.snd<=200)) (.c (!bx.fst) (.g ((.c,[.p false],cI))) (.g ((.b,[ah q,.e 0 0,.e 1 0,.d 97 l,ah len,ah (i64.wrap (i+1))],cI)))) .d) (.g ((.c,[.p false],[az [ah aS.snd],az bX])))) .d) fi) fi) .d) (.g ((.a 0,[.m],[az [ah n],az bX])))):af (aU×List aa×List aj)).D:=ae
def adV{f:List aa->Int->Bool×Int}(hf:∀l n,0<=n->n<=200->n<=(f l n).2/\(f l n).2<=201/\((f l n).1=true->(f l n).2<=200)):∀(l:List aa)(n:Int),0<=n->n<=200->
  n<=(eZ f l n).2/\(eZ f l n).2<=201/\((eZ f l n).1=true->(eZ f l n).2<=200/\(l.length:Int)<=(eZ f l n).2-n)
 | [],n,h0,h1=>by unfold eZ;exact⟨j1 _,by show n<=201;omega,λ_=>⟨h1,aB⟩⟩
 |s::r,n,h0,h1=>by
  unfold eZ;split
  ·exact⟨by show n<=n+1;omega,by show n+1<=201;omega,λh=>by cases h⟩
  ·rename_i hc;have hc':n+1<=200:=by
    rcases Int.lt_or_le 200 (n+1)with h |h
    ·exact absurd (Or.inl h) hc
    ·exact h
   have i1:=hf (aP s) (n+1) ab hc';split
   ·exact⟨by show n<=(f (aP s) (n+1)).2;omega,i1.2.1,λh=>by cases h⟩
   ·rename_i h2;have i2:=i1.2.2 (by simpa using h2);have i3:=hf (bf s) (f (aP s) (n+1)).2 ab i2;split
    ·exact⟨by show n<=(f (bf s) (f (aP s) (n+1)).2).2;omega,i3.2.1,λh=>by cases h⟩
    ·rename_i h4;have i4:=i3.2.2 (by simpa using h4);have i5:=adV hf r (f (bf s) (f (aP s) (n+1)).2).2 ab i4;refine⟨ab,i5.2.1,λh=>⟨(i5.2.2 h).1,?_⟩⟩;have:=(i5.2.2 h).2;simp;omega
def kM:∀(m:Nat)(l:List aa)(n:Int),0<=n->n<=200->n<=(bn m l n).2/\(bn m l n).2<=201/\((bn m l n).1=true->(bn m l n).2<=200/\(l.length:Int)<=(bn m l n).2-n)
 |0,l,n,h0,h1=>by unfold bn;refine⟨j1 _,by show n<=201;omega,λh=>⟨h1,?_⟩⟩;have:l=[]:=List.isEmpty_iff.1 h;subst this;simp
 |m+1,l,n,h0,h1=>adV (λl n a b=>⟨(kM m l n a b).1,(kM m l n a b).2.1,λh=>((kM m l n a b).2.2 h).1⟩) l n h0 h1
def AO(w:Bool×Int):aU×List aa×List aj:=match w.1 with
 |true=>(.a 0,[.m],Dq w.2)
 |false=>(.c,[.p false],Dq w.2)
def adW(m q:Nat)(l)(hm:q<m)(hq:q<=100):∀(k i:Nat)(n:Int),i+k=l.length->0<=n->n<=200->(i:Int)<=n->
  ∃r,r=eZ (bn q) (l.drop i) n/\bw an (Gt m) yp 2 4 [.c .i64 ((q+1:Nat):Int),.e 0 0,.e 1 0,.d 97 l,.c .i64 (l.length:Int),.c .i64 i] (Dq n) (AO r)
 |0,i,n,h,h0,h1,_=>by refine bw.I Lg 0 ae ae cv (dK.U (Te m _ _ i n l) ?_);refine dK.D (λh=>by rw[bC]at h;omega) (λ_=>.I ⟨(true,n),?_,rfl⟩);rw[tz ab];rfl
 |k+1,i,n,h,h0,h1,pP=>by
  have hi:i<l.length:=ab;have hd:l.drop i=l[i]::l.drop (i+1):=oY hi;have hg:l.getD i .m=l[i]:=by rw[dD,cV hi];rfl
  have hw:i64.wrap (((q+1:Nat):Int)-1)=(q:Int):=by rw[ep ab ab];omega
  refine bw.I Lg 0 ae ae cv (dK.U (Te m _ _ i n l) ?_);rw[hw,dE,dE,hg,ep (n:=(i:Int)+1) ab ab,ep (n:=n+1) ab ab,hd];have pY:eZ (bn q) (l[i]::l.drop (i+1)) n=if n+1>200\/lj l[i]=false then(false,n+1)else
   if(bn q (aP l[i]) (n+1)).1=false then(false,(bn q (aP l[i]) (n+1)).2)else
   if(bn q (bf l[i]) (bn q (aP l[i]) (n+1)).2).1=false then(false,(bn q (bf l[i]) (bn q (aP l[i]) (n+1)).2).2)else eZ (bn q) (l.drop (i+1)) (bn q (bf l[i]) (bn q (aP l[i]) (n+1)).2).2:=rfl
  rw[pY];refine dK.D (λ_=> ?_) (λh=>by rw[BB]at h;omega);refine dK.D (λ_=> ?_) (λh=>by rw[aD ab,aD ab]at h;cases h);refine dK.D (λh2=> ?_) (λh2=>.I ⟨_,?_,(rfl:_=AO (false,n+1))⟩)
  ·have h2':¬n+1>200:=by simpa using h2
   refine dK.D (λh3=> ?_) (λh3=>.I ⟨_,?_,(rfl:_=AO (false,n+1))⟩)
   ·have h3':lj l[i]=true:=by rw[Nn]at h3;exact h3
    rw[if_neg (by rw[h3'];simp;omega)];have i1:=kM q (aP l[i]) (n+1) ab ab;refine dK.D (λ_=> ?_) (λh=>by rw[aD ab,aD ab,aD ab,aD ab]at h;cases h);refine dK.D (λh4=> ?_) (λh4=>.I ⟨_,?_,(rfl:_=AO (false,(bn q (aP l[i]) (n+1)).2))⟩)
    ·have h4':(bn q (aP l[i]) (n+1)).1=true:=by rw[Nn]at h4;exact h4
     have i2:=(i1.2.2 h4').1;have i3:=kM q (bf l[i]) (bn q (aP l[i]) (n+1)).2 ab i2;rw[if_neg (by rw[h4'];simp)];refine dK.D (λ_=> ?_) (λh=> ?_)
     ·refine dK.D (λh5=>.I ⟨_,?_,(rfl:_=AO (false,(bn q (bf l[i]) (bn q (aP l[i]) (n+1)).2).2))⟩) (λh5=> ?_)
      ·have h5':(bn q (bf l[i]) (bn q (aP l[i]) (n+1)).2).1=false:=by have h6:(!(bn q (bf l[i]) (bn q (aP l[i]) (n+1)).2).1)=true:=h5;simpa using h6
       rw[if_pos h5']
      ·have h5':(bn q (bf l[i]) (bn q (aP l[i]) (n+1)).2).1=true:=by have h6:(!(bn q (bf l[i]) (bn q (aP l[i]) (n+1)).2).1)=false:=h5;simpa using h6
       have i4:=(i3.2.2 h5').1;rw[if_neg (by rw[h5'];simp)];obtain⟨r,hr,hl⟩:=adW m q l hm hq k (i+1) (bn q (bf l[i]) (bn q (aP l[i]) (n+1)).2).2 ab ab i4 ab;exact .I ⟨r,hr,hl⟩
     ·have e:(decide ((q:Int)<(m:Int)) &&decide ((0:Int)<=(q:Int)) &&decide ((0:Int)<=(bn q (aP l[i]) (n+1)).2) &&decide ((bn q (aP l[i]) (n+1)).2<=200))=true:=by rw[aD ab,aD ab,aD ab,aD i2];rfl
      have h':(decide ((q:Int)<(m:Int)) &&decide ((0:Int)<=(q:Int)) &&decide ((0:Int)<=(bn q (aP l[i]) (n+1)).2) &&decide ((bn q (aP l[i]) (n+1)).2<=200))=false:=h;rw[e]at h';cases h'
    ·have h4':(bn q (aP l[i]) (n+1)).1=false:=by rw[Nn]at h4;exact h4
     rw[if_pos h4']
   ·have h3':lj l[i]=false:=by rw[Nn]at h3;exact h3
    rw[if_pos (Or.inr h3')]
  ·have h2':n+1>200:=by simpa using h2
   rw[if_pos (Or.inl h2')]
def Tf(M:Nat):dk:=λm key vs os=>match vs,os with
 | [.c .i64 q,.e 0 0,.e 1 0,.d 97 l,.c .i64 len,.c .i64 0],[.a false [.c .i64 n],.a false [.z 108 [] [.e 0 0,.e 1 0]]]=>
  .I (decide (q<=(M:Int)) && (decide (1<=q) ||l.isEmpty) &&decide (q<=100) &&decide (len=(l.length:Int)) &&decide (0<=n) &&decide (n<=200) &&Nat.beq m 2 &&Nat.beq key 4)
   (.c (eZ (bn (q-1).toNat) l n).1 (.g (.a 0,[.m],[.a false [.c .i64 (eZ (bn (q-1).toNat) l n).2],.a false [.z 108 [] [.e 0 0,.e 1 0]]])) (.g (.c,[.p false],[.a false [.c .i64 (eZ (bn (q-1).toNat) l n).2],.a false [.z 108 [] [.e 0 0,.e 1 0]]])))
 |_,_=>.d
def asL(m:Nat)(q n:Int):bw an (Gt m) yp 2 4 [.c .i64 q,.e 0 0,.e 1 0,.d 97 [],.c .i64 (0:Nat),.c .i64 0] (Dq n) (AO (true,n)):=
 bw.D Lg 0 ae ae cv (Te m _ _ _ _ []) rfl
def asM(M:Nat):cJ an (Gt M) yp (Tf M):=by
 intro m key vs os r h;unfold Tf at h;split at h
 ·rename_i q l len n;obtain⟨h1,h2⟩:=aO h;simp only[au,bC,aNx]at h1;obtain⟨⟨⟨⟨⟨⟨⟨hM,pO⟩,vh⟩,rfl⟩,EJ⟩,o6⟩,rfl⟩,rfl⟩:=h1;rw[nh,bC,tD]at pO;rcases pO with pO |rfl
  case inr=>have h3:=asL M q n;cases h2;exact h3
  obtain⟨p,rfl⟩:∃p:Nat,q=((p+1:Nat):Int):=⟨(q-1).toNat,ab⟩
  have e2:(((p+1:Nat):Int)-1).toNat=p:=ab;rw[e2]at h2;obtain⟨x,rfl,h3⟩:=adW M p l ab ab l.length 0 n ab EJ o6 ab;rw[oc]at h3;unfold AO at h3;cases hb:(eZ (bn p) l n).1<;>rw[hb]at h2 h3<;>simp only[af.D,Option.some.injEq]at h2<;>subst h2<;>exact h3
 ·simp[af.D]at h
def asN(M q n l):(aI (ay an (Gt M) yp (Tf M)) false f108 [.d 97 l,ah q,.e 0 0,.e 1 0] (Dq n)).D=((letI ai:=(↑l.length:Int);letI ak:List aa:=[.z 108 [] [.e 0 0,.e 1 0]];letI aw:=eZ (bn (q-1).toNat) l n;letI aS:List aj:=[az [ah aw.snd],az ak];letI bx:af aC:=.c (decide (q<=(↑M:Int)) && (decide (1<=q) ||l.isEmpty) &&decide (q<=100) &&decide (ai=ai) &&decide (0<=n) &&decide (n<=200) &&Nat.beq 2 2 &&Nat.beq 4 4) (.c (aw.fst) (al (.p true) aS) (al (.p false) aS)) .d;af.c (decide (ai>0)) (.c (decide (q<1)) (al (.p false) [az [ah n],az ak]) bx) bx):af aC).D:=ae
def adX:∀M:Nat,M<=101->aH 108 (Gs M)
 |0,_=>λargs ao out h=>by
  unfold Gs at h;split at h
  ·obtain⟨h1,_⟩:=aO h;simp only[au,bC]at h1;omega
  ·simp[af.D]at h
 |M+1,hM=>dN aW c_ (aA asJ (aA (adX M ab) aQ)) Lg rfl (asM M) λu v z h=>by
  unfold Gs at h;split at h
  ·rename_i l q n;obtain⟨h1,h2⟩:=aO h;simp only[au,bC]at h1;obtain⟨⟨⟨h3,h4⟩,h5⟩,h6⟩:=h1;refine(asN M q n l).trans (bS ?_ h2);obtain⟨p,rfl⟩:=HR h4;rw[dE];have hb:∀x y:Bool,(x && (decide (1<=(p:Int)) ||l.isEmpty) &&y &&decide ((l.length:Int)=(l.length:Int)) &&decide ((0:Int)<=n) &&decide (n<=(200:Int)) &&Nat.beq (nat_lit 2) 2 &&Nat.beq (nat_lit 4) 4)=(x && (decide (1<=(p:Int)) ||l.isEmpty) &&y):=by intro x y;rw[aD (rfl:(l.length:Int)=(l.length:Int)),aD h5,aD h6];cases(x && (decide (1<=(p:Int)) ||l.isEmpty) &&y)<;>rfl
   rw[hb];cases p with
   |zero=>
    cases l with
    |nil=>rw[aD (show((0:Nat):Int)<=(M:Int)from ab)];rfl
    |cons s r=>rw[aD (show((s::r).length:Int)>0 from aB)];rfl
   |succ p=>have e2:(((p+1:Nat):Int)-1).toNat=p:=ab;rw[e2,aD (show((p+1:Nat):Int)<=(M:Int)from ab),aD (show(1:Int)<=((p+1:Nat):Int)from ab),aD (show((p+1:Nat):Int)<=100 from ab),ly (show ¬((p+1:Nat):Int)<1 from ab)];have e3:bn (p+1) l n=eZ (bn p) l n:=rfl;rw[e3];cases decide ((l.length:Int)>0)<;>cases hw:(eZ (bn p) l n).1<;>rfl
  ·cases h
def Tg:aq
 | [.d 97 l],[]=>.g (.a (.q [.c .i64 (bn 20 l 0).2,.p (bn 20 l 0).1]) [])
 |_,_=>.d
def asO(l):(aI (ay an (aL [(108,Gs 21)]) Qn aK) false f67 [.d 97 l] []).D=((af.g (.a (.q [ah (bn (Int.toNat (20:Int)) l 0).snd,.p (bn (Int.toNat (20:Int)) l 0).fst]) []))).D:=ae
def asP:aH 67 Tg:=bI (aA (adX 21 ab) aQ) asK λp q r h=>by
 unfold Tg at h;split at h
 ·exact(asO _).trans h
 ·cases h
def asQ:=aR 34 Qo ae
def asR:=aR 66 Qp ae
def Lh:=aR 37 wa ae
def adY:=aR 27 Al ae
def asS:=aR 48 Qq ae
def nR(nm:List UInt8)(t:Int):aa:=.u [.h nm,.c .i64 t]
def Li(nm:List UInt8)(t:Int):Bool:= !jX nm || !qu t
def Th:aq
 | [.u [.h nm,.c .i64 t]],[]=>.g (.a (.p (Li nm t)) [])
 |_,_=>.d
def asT(nm t):(aI (ay an (aL [(63,wv),(64,Gr)]) Qp aK) false f66 [nR nm t] []).D=((af.c (!!jX nm)
 (.g (aC.a (aa.p !qu t) []))
 (.g (aC.a (aa.p true) [])))).D:=ae
def asU:aH 66 Th:=bI (aA yE (aA S7 aQ)) asR λp q r h=>by
 unfold Th at h;split at h
 ·refine(asT _ _).trans (bS ?_ h);rename_i nm t;unfold Li;cases jX nm<;>cases qu t<;>rfl
 ·cases h
def Ti:FuncId->aq:=aL [(66,Th)]
def adZ:=aR 107 C9 ae
def uD:aa->Bool:=λv=>Li (v.D 0).bJ (v.D 1).I
def asV(vs len n):(cB (ay an Ti C9 aK) 0 2 (cq C9 0) [.d 101 vs,.z 66 [] [],ah len,ah n] []).D=((letI ai:=vs.getD n.toNat .m;af.c (decide (n<len)) (.c (decide (0<=n) &&decide (n<(↑vs.length:Int))) (.c (Li (ai.D 0).bJ (ai.D 1).I) (.g ((.c,[ah n],[]))) (.g ((.b,[.d 101 vs,.z 66 [] [],ah len,ah (i64.wrap (n+1))],[])))) .d) (.g ((.a 0,[.m],[])))):af (aU×List aa×List aj)).D:=ae
def Tj:dk:=λm key vs os=>match vs,os with
 | [.d 101 vs,.z 66 [] [],.c .i64 len,.c .i64 0],[]=>.I (decide (len=(vs.length:Int)) &&decide (vs.length<=bP) &&Nat.beq m 0 &&Nat.beq key 2) (CU (bc (uD) vs 0))
 |_,_=>.d
def asW:cJ an Ti C9 Tj:=by
 intro m key vs os r h;unfold Tj at h;split at h
 ·rename_i vs len;obtain⟨h1,h2⟩:=aO h;simp only[au,bC,aNx]at h1;obtain⟨⟨⟨rfl,hs⟩,rfl⟩,rfl⟩:=h1;rw[FQ]at h2;injection h2 with h2;subst h2;exact FR adZ 0 ae ae cv (λn=> [.d 101 vs,.z 66 [] [],.c .i64 vs.length,.c .i64 n]) (uD) vs hs (λn=>asV vs _ n) vs.length 0 ab
 ·simp[af.D]at h
def Tk:aq| [.d 101 vs,.z 66 [] []],[]=>.I (decide (vs.length<=bP)) (.g (.a (.c .i64 (fH (bc (uD) vs 0))) [])) |_,_=>.d
def asX(vs):(aI (ay an Ti C9 Tj) false f107 [.d 101 vs,.z 66 [] []] []).D=((af.c (decide ((↑vs.length:Int)=(↑vs.length:Int)) &&decide (vs.length<=cg) &&Nat.beq 0 0 &&Nat.beq 2 2) (.c ((bc uD vs 0).isSome) (al (ah (↑((bc uD vs 0).getD 0):Int)) []) (al (ah (-1:Int)) [])) .d)).D:=ae
def asY:aH 107 Tk:=dN aW c_ (aA asU aQ) adZ rfl asW λp q r h=>by
 unfold Tk at h;split at h
 ·obtain⟨h1,h2⟩:=aO h;refine(asX _).trans ?_;rw[<-h2];simp only[dA,fU];rw[if_pos (by simpa using (show _<=9223372036854775807 from ff h1))];cases bc _ _ 0<;>rfl
 ·cases h
def asZ:=aR 65 Qr ae
def Tl:aq| [.d 101 vs,.z 66 [] []],[]=>.I (decide (vs.length<=bP)) (.g (.a (.p (bc (uD) vs 0).isSome) [])) |_,_=>.d
def as0(vs):(aI (ay an (aL [(107,Tk)]) Qr aK) false f65 [.d 101 vs,.z 66 [] []] []).D=((af.c (decide (vs.length<=cg)) (al (.p (decide (fH (bc uD vs 0)>=0))) []) .d)).D:=ae
def as1:aH 65 Tl:=bI (aA asY aQ) asZ λp q r h=>by
 unfold Tl at h;split at h
 ·obtain⟨h1,h2⟩:=aO h;refine(as0 _).trans ?_;rw[<-h2];simp only[dA,fU];rw[if_pos (by simpa using (show _<=9223372036854775807 from ff h1))];cases bc _ _ 0<;>simp[fH]
 ·cases h
def aG(nm:List UInt8)(ps:List aa)(rs:Int)(bo:List aa)(ct:Int):aa:=.u [.h nm,.d 101 ps,.c .i64 rs,.d 97 bo,.c .i64 ct]
def fm(nm:List UInt8)(ps:List aa)(rs:Int)(bo:List aa):Bool:=jX nm && !decide ((ps.length:Int)>8) && (!(rs !=0) ||qu rs) && !(bc uD ps 0).isSome && (bn 20 bo 0).1
def Gu:aq
 | [.u [.h nm,.d 101 ps,.c .i64 rs,.d 97 bo,.c .i64 _]],[]=>.g (.a (.p (fm nm ps rs bo)) [])
 |_,_=>.d
def as2:FuncId->aq:=aL [(63,wv),(64,Gr),(65,Tl),(67,Tg)]
def as3(nm ps rs bo ct):(aI (ay an as2 Qo aK) false f34 [aG nm ps rs bo ct] []).D=((letI ai:af aC:=al (.p false) [];letI ak:af aC:=.c (decide (ps.length<=cg)) (.c ((bc uD ps 0).isSome) ai (al (.p (bn 20 bo 0).fst) [])) .d;af.c (!!jX nm) (.c (!decide ((↑ps.length:Int)>8)) (.c (rs !=0) (.c (!qu rs) ai ak) ak) ai) ai):af aC).D:=ae
def Tm:aH 34 Gu:=bI (aA yE (aA S7 (aA as1 (aA asP aQ)))) asQ λp q r h=>by
 unfold Gu at h;split at h
 ·rename_i nm ps rs bo ct;refine(as3 nm ps rs bo ct).trans (bS ?_ h);unfold fm;by_cases h1:(ps.length:Int)>8
  ·cases jX nm<;>simp[h1,dA,fU]
  ·rw[ly h1,aD (show ps.length<=nat_lit 9223372036854775807 from(show ps.length<=9223372036854775807 from ab))];cases jX nm<;>cases(rs !=0)<;>cases qu rs<;>cases(bc uD ps 0).isSome<;>rfl
 ·cases h
def as4(nm:List UInt8)(k no ty:Int)(ca:List UInt8)(ar bo el:List aa):aa:=.A [.c .i64 k,.c .i64 no,.h nm,.c .i64 ty,.h ca,.d 177 ar,.d 97 bo,.d 97 el]
def Tn:aq
 | [.A [.c .i64 _,.c .i64 no,.h _,.c .i64 _,.h _,.d 177 _,.d 97 _,.d 97 _],.e 0 0,.e 1 0],[.a false [.p b],.a false [.c .i64 n]]=>
  .g (.a (.q []) [.a false [.p (b && (no==n))],.a false [.c .i64 (i64.wrap (n+1))]])
 |_,_=>.d
def as5(nm k no ty ca ar bo el b n):(aI (ay an (aL []) Qq aK) false f48 [as4 nm k no ty ca ar bo el,.e 0 0,.e 1 0] [az [.p b],az [ah n]]).D=((af.c (b) (al (.q []) [az [.p (no==n)],az [ah (i64.wrap (n+1))]]) (al (.q []) [az [.p false],az [ah (i64.wrap (n+1))]]))).D:=ae
def as6:aH 48 Tn:=bI aQ asS λp q r h=>by
 unfold Tn at h;split at h
 ·rename_i k no nm ty ca ar bo el b n;refine(as5 nm k no ty ca ar bo el b n).trans (bS ?_ h);cases b<;>rfl
 ·cases h
def cK:Nat->List aa->Bool
 |0,l=>l.isEmpty
 |m+1,l=>decide (l.length<=bP) &&l.all λs=>cK m (aP s) &&cK m (bf s)
def mr(f:List aa->Bool×Int->Bool×Int):List aa->Bool×Int->Bool×Int
 | [],w=>w
 |s::r,w=>mr f r (f (bf s) (f (aP s) (w.1 && (bZ s==w.2),i64.wrap (w.2+1))))
def db:Nat->List aa->Bool×Int->Bool×Int
 |0=>λ_ w=>w
 |m+1=>mr (db m)
def Lj(w:Bool×Int):List aj:=[.a false [.p w.1],.a false [.c .i64 w.2]]
def yI(m:Nat):aq
 | [.d 97 l,.z 48 [] [.e 0 0,.e 1 0]],[.a false [.p b],.a false [.c .i64 n]]=>
  .I (cK m l) (.g (.a (.q []) [.a false [.p (db m l (b,n)).1],.a false [.c .i64 (db m l (b,n)).2]]))
 |_,_=>.d
def Lk(M:aq):FuncId->aq:=aL [(48,Tn),(37,M)]
def ad0(m len i l b n):(cB (ay an (Lk (yI m)) wa aK) 2 1 (cq wa 0) [.d 97 l,.z 48 [] [.e 0 0,.e 1 0],ah len,ah i] [az [.p b],az [ah n]]).D=((letI ai:=decide (0<=i) &&decide (i<(↑l.length:Int));letI ak:=l.getD i.toNat .m;letI aw:=db m (ak.D 6).U (b && (ak.D 1).I==n,i64.wrap (n+1));letI aS:=db m (ak.D 7).U (aw.fst,aw.snd);af.c (decide (i<len)) (.c ai (.c ai (.c (cK m (ak.D 6).U) (.c ai (.c (cK m (ak.D 7).U) (.g ((.b,[.d 97 l,.z 48 [] [.e 0 0,.e 1 0],ah len,ah (i64.wrap (i+1))],[az [.p aS.fst],az [ah aS.snd]]))) .d) .d) .d) .d) .d) (.g ((.a 0,[],[az [.p b],az [ah n]])))):af (aU×List aa×List aj)).D:=ae
def as7(h:cK (m+1) l=true){i:Nat}(hi:i<l.length):cK m (aP l[i])=true/\cK m (bf l[i])=true:=by unfold cK at h;rw[au,dS]at h;have:=h.2 l[i] (mE hi);rwa[au]at this
def Ll(h:cK m l=true):l.length<=bP:=by
 cases m with
 |zero=>rw[cK,tD]at h;subst h;exact ik _
 |succ m=>rw[cK,au,bC]at h;exact h.1
def ad1(m:Nat)(l)(hl:cK (m+1) l=true):∀(k i:Nat)(w:Bool×Int),i+k=l.length->
  bw an (Lk (yI m)) wa 2 1 [.d 97 l,.z 48 [] [.e 0 0,.e 1 0],.c .i64 (l.length:Int),.c .i64 i] (Lj w) (.a 0,[],Lj (mr (db m) (l.drop i) w))
 |0,i,w,h=>by
  refine bw.D Lh 0 ae ae cv ((ad0 m _ i l w.1 w.2).trans ?_) (y:=(.a 0,[],Lj w)) ?_
  ·rw[dA,if_neg (by rw[bC];omega)];rfl
  ·rw[tz ab];rfl
 |k+1,i,w,h=>by
  have hi:i<l.length:=ab;have hd:l.drop i=l[i]::l.drop (i+1):=oY hi;have hg:l.getD i .m=l[i]:=by rw[dD,cV hi];rfl
  have hn:=as7 hl hi;have hb:=Ll hl;have nq:bP=9223372036854775807:=rfl;refine bw.D Lh 0 ae ae cv ((ad0 m _ i l w.1 w.2).trans ?_) (y:=(.b,[.d 97 l,.z 48 [] [.e 0 0,.e 1 0],.c .i64 (l.length:Int),.c .i64 ((i+1:Nat):Int)],Lj (db m (bf l[i]) (db m (aP l[i]) (w.1 && (bZ l[i]==w.2),i64.wrap (w.2+1)))))) ?_
  ·rw[dE,hg,ep (n:=(i:Int)+1) ab ab];refine eu (λ_=> ?_) (λh=>by rw[BB]at h;omega);refine eu (λ_=> ?_) (λh=>by rw[aD ab,aD ab]at h;cases h);refine eu (λ_=> ?_) (λh=>by rw[aD ab,aD ab]at h;cases h);refine eu (λ_=> ?_) (λh=>absurd (h.symm.trans hn.1) av);refine eu (λ_=> ?_) (λh=>by rw[aD ab,aD ab]at h;cases h);refine eu (λ_=> ?_) (λh=>absurd (h.symm.trans hn.2) av);rfl
  ·rw[hd,mr];exact ad1 m l hl k (i+1) _ ab
def To(M:Nat):dk:=λm key vs os=>match vs,os with
 | [.d 97 l,.z 48 [] [.e 0 0,.e 1 0],.c .i64 len,.c .i64 0],[.a false [.p b],.a false [.c .i64 n]]=>
  .I (decide (len=(l.length:Int)) &&cK (M+1) l &&Nat.beq m 2 &&Nat.beq key 1) (.g (.a 0,[],[.a false [.p (mr (db M) l (b,n)).1],.a false [.c .i64 (mr (db M) l (b,n)).2]]))
 |_,_=>.d
def as8(M:Nat):cJ an (Lk (yI M)) wa (To M):=by
 intro m key vs os r h;unfold To at h;split at h
 ·rename_i l len b n;obtain⟨h1,h2⟩:=aO h;simp only[au,bC,aNx]at h1;obtain⟨⟨⟨rfl,hl⟩,rfl⟩,rfl⟩:=h1;have h3:=ad1 M l hl l.length 0 (b,n) ab;rw[oc]at h3;cases h2;exact h3
 ·simp[af.D]at h
def as9(M l b n):(aI (ay an (Lk (yI M)) wa (To M)) false f37 [.d 97 l,.z 48 [] [.e 0 0,.e 1 0]] [az [.p b],az [ah n]]).D=((af.c (decide ((↑l.length:Int)=(↑l.length:Int)) &&cK (M+1) l &&Nat.beq 2 2 &&Nat.beq 1 1) (al (.q []) [az [.p (mr (db M) l (b,n)).fst],az [ah (mr (db M) l (b,n)).snd]]) .d)).D:=ae
def as'(b n):(aI (ay an (aL []) wa (cG an (aL []) wa 2 2).d) false f37 [.d 97 [],.z 48 [] [.e 0 0,.e 1 0]] [az [.p b],az [ah n]]).D=((af.g (.a (.q []) [az [.p b],az [ah n]]))).D:=ae
def ad3:∀m:Nat,aH 37 (yI m)
 |0=>dN aW c_ aQ Lh rfl (sH 2) λargs ao out h=>by
  unfold yI at h;split at h
  ·rename_i l b n;obtain⟨h1,h2⟩:=aO h;rw[cK,tD]at h1;subst h1;exact(as' b n).trans h2
  ·cases h
 |m+1=>dN aW c_ (aA as6 (aA (ad3 m) aQ)) Lh rfl (as8 m) λp q r h=>by
  unfold yI at h;split at h
  ·rename_i l b n;obtain⟨h1,h2⟩:=aO h;refine(as9 m l b n).trans (bS ?_ h2);refine eu (λ_=>rfl) (λh=> ?_);rw[aD (rfl:(l.length:Int)=(l.length:Int)),h1]at h;cases h
  ·cases h
def ad4{m:Nat}(ih:∀l n,0<=n->n<=200->(bn m l n).1=true->cK m l=true):∀(l:List aa)(n:Int),0<=n->n<=200->(eZ (bn m) l n).1=true->l.all (λs=>cK m (aP s) &&cK m (bf s))=true
 | [],n,_,_,h=>rfl
 |s::r,n,h0,h1,h=>by
  unfold eZ at h;split at h
  ·cases h
  ·rename_i h2;have h2':n+1<=200:=Int.not_lt.1 λx=>h2 (Or.inl x);split at h
   ·cases h
   ·rename_i h3;split at h
    ·cases h
    ·rename_i h4;have a3:(bn m (aP s) (n+1)).1=true:=by simpa using h3
     have a4:(bn m (bf s) (bn m (aP s) (n+1)).2).1=true:=by simpa using h4
     have b3:=kM m (aP s) (n+1) ab h2';have b4:=kM m (bf s) (bn m (aP s) (n+1)).2 ab (b3.2.2 a3).1;rw[ja,au,au];exact⟨⟨ih _ _ ab h2' a3,ih _ _ ab (b3.2.2 a3).1 a4⟩,ad4 ih r _ ab (b4.2.2 a4).1 h⟩
def ad5:∀(m:Nat)(l:List aa)(n:Int),0<=n->n<=200->(bn m l n).1=true->cK m l=true
 |0,l,n,_,_,h=>h
 |m+1,l,n,h0,h1,h=>by
  have hs:=(kM (m+1) l n h0 h1).2.2 h;have hb:l.length<=bP:=by have:bP=9223372036854775807:=rfl;omega
  rw[cK,au,bC];exact⟨hb,ad4 (ad5 m) l n h0 h1 h⟩
def Tp{rs:Int}(h:fm nm ps rs bo=true):cK 20 bo=true:=by unfold fm at h;rw[au]at h;exact ad5 20 bo 0 ab ab h.2
def fo(f:aa):List UInt8:=(f.D 0).bJ
def iE(f:aa):List aa:=(f.D 1).U
def jY(f:aa):Int:=(f.D 2).I
def eJ(f:aa):List aa:=(f.D 3).U
def uE(f:aa):Int:=(f.D 4).I
def kN(f:aa):Bool:=fm (fo f) (iE f) (jY f) (eJ f) && (db 20 (eJ f) (true,0)).1 && !(uE f !=(db 20 (eJ f) (true,0)).2)
def Lm:FuncId->aq:=aL [(34,Gu),(37,yI 20)]
def ad6(l len i):(cB (ay an Lm Al aK) 0 4 (cq Al 0) [.d 43 l,ah len,ah i] []).D=((letI ai:=l.getD i.toNat .m;letI ak:af (aU×List aa×List aj):=.g ((.c,[ah 2],[]));letI aw:=db 20 (ai.D 3).U (true,(0:Int));af.c (decide (i<len)) (.c (decide (0<=i) &&decide (i<(↑l.length:Int))) (.c (!fm (ai.D 0).bJ (ai.D 1).U (ai.D 2).I (ai.D 3).U) ak (.c (cK 20 (ai.D 3).U) (.c (!!aw.fst) (.c ((ai.D 4).I !=aw.snd) ak (.g ((.b,[.d 43 l,ah len,ah (i64.wrap (i+1))],[])))) ak) .d)) .d) (.g ((.a 0,[.m],[])))):af (aU×List aa×List aj)).D:=ae
def Gv(_:Unit)(f:aa):Unit⊕Unit:=bif !fm (fo f) (iE f) (jY f) (eJ f)then .inl ()else bif !!(db 20 (eJ f) (true,0)).1 then(bif uE f !=(db 20 (eJ f) (true,0)).2 then .inl ()else .inr ())else .inl ()
def ata(f):Gv () f=bif kN f then .inr ()else .inl ():=by unfold Gv kN;cases fm (fo f) (iE f) (jY f) (eJ f)<;>cases(db 20 (eJ f) (true,0)).1<;>cases uE f !=(db 20 (eJ f) (true,0)).2<;>rfl
def atb(l):cR Gv l ()=bif l.all kN then .inr ()else .inl ():=by
 induction l with
 |nil=>rfl
 |cons v r ih=>
  rw[cR,ja,ata];cases kN v with
  |true=>exact ih
  |false=>rfl
def atc(l)(hl:l.length<=bP):bw an Lm Al 0 4 [.d 43 l,.c .i64 (l.length:Int),.c .i64 0] [] (ml (λ_=>(.c,[.c .i64 2],[])) (λ_=>(.a 0,[.m],[])) (cR Gv l ())):=by
 refine pz adY 0 ae ae cv (λn _=> [.d 43 l,.c .i64 (l.length:Int),.c .i64 n]) (λ_ _=> []) Gv _ _ (λ_ _=>True) l () trivial ?_ ?_
 ·intro n _ hn _;refine oF (ad6 l (l.length:Int) n) (dB (mm hn) (dB (jk hn) (jl (λ_=>ke rfl rfl) λh1=>dB (Tp (mQ h1)) (jl (λ_=>jl (λ_=>ke rfl rfl) λ_=>jI ?_ trivial) λ_=>ke rfl rfl))))
  ·rw[mn hn hl]
 ·intro _ _;have e:=ad6 l (l.length:Int) l.length;rw[mP]at e;exact⟨e,rfl⟩
def Tq:dk:=λm key vs os=>match vs,os with
 | [.d 43 l,.c .i64 len,.c .i64 0],[]=>.I (decide (len=(l.length:Int)) &&decide (l.length<=bP) &&Nat.beq m 0 &&Nat.beq key 4) (.c (l.all kN) (.g (.a 0,[.m],[])) (.g (.c,[.c .i64 2],[])))
 |_,_=>.d
def atd:cJ an Lm Al Tq:=by
 intro m key vs os r h;unfold Tq at h;split at h
 ·rename_i l len;obtain⟨h1,h2⟩:=aO h;simp only[au,bC,aNx]at h1;obtain⟨⟨⟨rfl,hl⟩,rfl⟩,rfl⟩:=h1;have h3:=atc l hl;rw[atb]at h3;cases hb:l.all kN<;>rw[hb]at h2 h3<;>cases h2<;>exact h3
 ·simp[af.D]at h
def bF(l:List aa):Bool:= !decide ((l.length:Int)>20) &&l.all kN
def wz:aq
 | [.u [.d 43 l]],[]=>.g (.a (.c .i64 (eY (bF l))) [])
 |_,_=>.d
def ate(l):(aI (ay an Lm Al Tq) false f27 [.u [.d 43 l]] []).D=((af.c (decide ((↑l.length:Int)>20)) (al (ah 2) []) (.c (decide ((↑l.length:Int)=(↑l.length:Int)) &&decide (l.length<=cg) &&Nat.beq 0 0 &&Nat.beq 4 4) (.c (l.all kN) (al (ah 0) []) (al (ah 2) [])) .d))).D:=ae
def yJ:aH 27 wz:=dN aW c_ (aA Tm (aA (ad3 20) aQ)) adY rfl atd λp q r h=>by
 unfold wz at h;split at h
 ·rename_i l;refine(ate l).trans (bS ?_ h);unfold bF;refine eu (λh1=> ?_) (λh1=> ?_)
  ·rw[h1];rfl
  ·rw[h1];have h2:¬(l.length:Int)>20:=eS h1;refine eu (λ_=> ?_) (λh3=> ?_)
   ·cases l.all kN<;>rfl
   ·rw[aD (rfl:(l.length:Int)=(l.length:Int)),aD (show l.length<=9223372036854775807 from ab)]at h3;cases h3
 ·cases h
def atf:=aR 103 Qs ae
def atg:=aR 102 Qt ae
def ath:=aR 62 Qu ae
def ati:=aR 61 Qv ae
def atj:=aR 30 Qw ae
def atk:=aR 31 Qx ae
def atl:=aR 15 Qy ae
def AP:Nat->aa->Bool
 |0,_=>false
 |m+1,e=>iS (λv=>AP m (bB v)) (e.D 4).U
def AQ:Nat->aa->aa->Bool
 |0,_,_=>false
 |m+1,a,b=>(((((a.D 0).I==(b.D 0).I) && ((a.D 1).I==(b.D 1).I)) && ((a.D 2).I==(b.D 2).I)) && ((a.D 3).bJ==(b.D 3).bJ)) &&cf (λv w=>AQ m (bB v) (bB w)) (a.D 4).U (b.D 4).U
def Ln(m:Nat):aq
 | [.u [.c .i64 k,.c .i64 op,.c .i64 num,.h nm,.d 177 ar],.u [.c .i64 k',.c .i64 op',.c .i64 vG,.h nm',.d 177 ar']],[]=>
  .I (AP m (b9 k op num nm ar)) (.g (.a (.p (AQ m (b9 k op num nm ar) (b9 k' op' vG nm' ar'))) []))
 |_,_=>.d
def Dr(m:Nat):FuncId->aq:=aL [(103,Ln m)]
def ad7:=aR 144 Am ae
def lN(m:Nat):aa->aa->Bool:=λv w=>AQ m (bB v) (bB w)
def oI(m:Nat):aa->Bool:=λv=>AP m (bB v)
def ad8(m l q len i):(cB (ay an (Dr m) Am aK) 0 4 (cq Am 0) [.d 177 q,.z 103 [] [],.d 177 l,ah len,ah i] []).D=((letI ai:=bB (l.getD i.toNat .m);af.c (decide (i<len)) (.c (decide (0<=i) &&decide (i<(↑l.length:Int))) (.c (decide (0<=i) &&decide (i<(↑q.length:Int))) (.c (AP m ai) (.c (!AQ m ai (bB (q.getD i.toNat .m))) (.g ((.c,[.p false],[]))) (.g ((.b,[.d 177 q,.z 103 [] [],.d 177 l,ah len,ah (i64.wrap (i+1))],[])))) .d) .d) .d) (.g ((.a 0,[.m],[])))):af (aU×List aa×List aj)).D:=ae
def atm(m:Nat)(l q)(hl:iS (oI m) l=true)(hq:l.length=q.length):bw an (Dr m) Am 0 4 [.d 177 q,.z 103 [] [],.d 177 l,.c .i64 (l.length:Int),.c .i64 0] [] (ml (λ_=>(.c,[.p false],[])) (λ_=>(.a 0,[.m],[])) (cR (kf (lN m)) l q)):=by
 obtain⟨hb,ha⟩:=sI.1 hl;refine pz ad7 0 ae ae cv (λn _=> [.d 177 q,.z 103 [] [],.d 177 l,.c .i64 (l.length:Int),.c .i64 n]) (λ_ _=> []) (kf (lN m)) _ _ (λn a=>a=q.drop n) l q rfl ?_ ?_
 ·rintro n a hn rfl;have hn':n<q.length:=hq▸hn;have hF:kf (lN m) (q.drop n) (l.getD n .m)=bif !lN m (l.getD n .m) (q.getD n .m)then .inl ()else .inr (q.drop (n+1)):=by unfold kf;rw[FT,HU]
  rw[hF];refine oF (ad8 m l q (l.length:Int) n) (dB (mm hn) (dB (jk hn) (dB (jk hn') (dB (ug ha hn) (jl (λ_=>ke rfl rfl) λ_=>jI ?_ rfl)))));rw[mn hn hb]
 ·intro _ _;have e:=ad8 m l q (l.length:Int) l.length;rw[mP]at e;exact⟨e,rfl⟩
def Ts(m:Nat):dk:=λm_ key vs os=>match vs,os with
 | [.d 177 q,.z 103 [] [],.d 177 l,.c .i64 len,.c .i64 0],[]=>.I (decide (len=(l.length:Int)) &&Nat.beq l.length q.length &&iS (oI m) l &&Nat.beq m_ 0 &&Nat.beq key 4) (.c (cf (lN m) l q) (.g (.a 0,[.m],[])) (.g (.c,[.p false],[])))
 |_,_=>.d
def atn(m:Nat):cJ an (Dr m) Am (Ts m):=by
 intro m_ key vs os r h;unfold Ts at h;split at h
 ·rename_i q l len;obtain⟨h1,h2⟩:=aO h;simp only[au,bC]at h1;obtain⟨⟨⟨⟨rfl,hq⟩,hl⟩,hm⟩,hk⟩:=h1;obtain rfl:=aV hm;obtain rfl:=aV hk;have h3:=atm m l q hl (aV hq);rw[CV _ _ _ (aV hq)]at h3;cases hb:cf (lN m) l q<;>rw[hb]at h2 h3<;>cases h2<;>exact h3
 ·simp[af.D]at h
def Tu(m:Nat):aq| [.d 177 l,.d 177 q,.z 103 [] []],[]=>.I (iS (oI m) l) (.g (.a (.p (cf (lN m) l q)) [])) |_,_=>.d
def ato(m l q):(aI (ay an (Dr m) Am (Ts m)) false f144 [.d 177 l,.d 177 q,.z 103 [] []] []).D=((af.c ((↑l.length:Int) !=(↑q.length:Int)) (al (.p false) []) (.c (decide ((↑l.length:Int)=(↑l.length:Int)) &&l.length.beq q.length && (decide (l.length<=cg) &&l.all (oI m)) &&Nat.beq 0 0 &&Nat.beq 4 4) (.c (cf (lN m) l q) (al (.p true) []) (al (.p false) [])) .d))).D:=ae
def atp(m:Nat):(∀k,aH k ((Dr m) k))->aH 144 (Tu m):=λhC=>dN aW c_ hC ad7 rfl (atn m) λp r u h=>by
 unfold Tu at h;split at h
 ·rename_i l q;obtain⟨h1,h2⟩:=aO h;refine(ato m l q).trans (bS ?_ h2);rw[FU];refine eu (λh3=> ?_) (λh3=> ?_)
  ·cases h4:cf (lN m) l q with
   |false=>rfl
   |true=>rw[CW h4,gq]at h3;cases h3
  ·refine eu (λ_=> ?_) (λh4=> ?_)
   ·cases cf (lN m) l q<;>rfl
   ·have h5:(decide (l.length<=9223372036854775807) &&l.all (oI m))=true:=h1;rw[mQ h3,aD (rfl:(l.length:Int)=(l.length:Int)),h5]at h4;cases h4
 ·cases h
def Lo(m:Nat):aq| [.d 177 l,.d 177 q,.z 103 [] []],[]=>.I (iS (oI m) l) (.g (.a (.p (cf (lN m) l q)) [])) |_,_=>.d
def atq(m:Nat):FuncId->aq:=aL [(144,Tu m)]
def atr(m l q):(aI (ay an (atq m) Qt aK) false f102 [.d 177 l,.d 177 q,.z 103 [] []] []).D=((af.c (decide (l.length<=cg) &&l.all (oI m)) (al (.p (cf (lN m) l q)) []) .d)).D:=ae
def ad9(m:Nat)(hC:∀k,aH k (Dr m k)):aH 102 (Lo m):=bI (aA (atp m hC) aQ) atg λp r u h=>by
 unfold Lo at h;split at h
 ·rename_i l q;exact(atr m l q).trans h
 ·cases h
def att(m:Nat):FuncId->aq:=aL [(102,Lo m)]
def atu(m k op num nm ar k' op' vG nm' ar'):(aI (ay an (att m) Qs aK) false f103 [b9 k op num nm ar,b9 k' op' vG nm' ar'] []).D=((af.c (k==k') (.c (op==op') (.c (num==vG) (.c (nm==nm') (.c (decide (ar.length<=cg) &&ar.all (oI m)) (al (.p (cf (lN m) ar ar')) []) .d) (al (.p false) [])) (al (.p false) [])) (al (.p false) [])) (al (.p false) []))).D:=ae
def atv(m:Nat)(k op num:Int)(nm ar)(k' op' vG:Int)(nm' ar'):AQ (m+1) (b9 k op num nm ar) (b9 k' op' vG nm' ar')=(((((k==k') && (op==op')) && (num==vG)) && (nm==nm')) &&cf (lN m) ar ar'):=rfl
def ad_:∀m:Nat,aH 103 (Ln m)
 |0=>λargs ao out h=>by
  unfold Ln at h;split at h
  ·obtain⟨h1,_⟩:=aO h;cases h1
  ·cases h
 |m+1=>bI (aA (ad9 m (aA (ad_ m) aQ)) aQ) atf λp q r h=>by
  unfold Ln at h;split at h
  ·rename_i k op num nm ar k' op' vG nm' ar';obtain⟨h1,h2⟩:=aO h;refine(atu m k op num nm ar k' op' vG nm' ar').trans (bS ?_ h2);rw[atv];have h3:(decide (ar.length<=9223372036854775807) &&ar.all (oI m))=true:=h1;rw[h3];cases k==k'<;>cases op==op'<;>cases num==vG<;>cases nm==nm'<;>rfl
  ·cases h
def dV(v:aa):aa:=dL (v.D 0).I (v.D 1).I (v.D 2).bJ (v.D 3).I (v.D 4).bJ (v.D 5).U (v.D 6).U (v.D 7).U
def AR:Nat->aa->Bool
 |0,_=>false
 |m+1,s=>iS (oI 20) (dG s) &&iS (λv=>AR m (dV v)) (aP s) &&iS (λv=>AR m (dV v)) (bf s)
def yK:Nat->aa->aa->Bool
 |0,_,_=>false
 |m+1,a,b=>((((((dp a==dp b) && (eI a==eI b)) && (iD a==iD b)) && (jJ a==jJ b)) &&cf (lN 20) (dG a) (dG b)) &&cf (λv w=>yK m (dV v) (dV w)) (aP a) (aP b)) &&cf (λv w=>yK m (dV v) (dV w)) (bf a) (bf b)
def Lp(m:Nat):aq
 | [.u [.c .i64 k,.c .i64 no,.h nm,.c .i64 ty,.h ca,.d 177 ar,.d 97 bo,.d 97 el],.u [.c .i64 k',.c .i64 no',.h nm',.c .i64 ty',.h ca',.d 177 ar',.d 97 bo',.d 97 el']],[]=>
  .I (AR m (dL k no nm ty ca ar bo el)) (.g (.a (.p (yK m (dL k no nm ty ca ar bo el) (dL k' no' nm' ty' ca' ar' bo' el'))) []))
 |_,_=>.d
def Ds(m:Nat):FuncId->aq:=aL [(62,Lp m)]
def ad':=aR 101 An ae
def kO(m:Nat):aa->aa->Bool:=λv w=>yK m (dV v) (dV w)
def lO(m:Nat):aa->Bool:=λv=>AR m (dV v)
def aea(m l q len i):(cB (ay an (Ds m) An aK) 0 4 (cq An 0) [.d 97 q,.z 62 [] [],.d 97 l,ah len,ah i] []).D=((letI ai:=dV (l.getD i.toNat .m);af.c (decide (i<len)) (.c (decide (0<=i) &&decide (i<(↑l.length:Int))) (.c (decide (0<=i) &&decide (i<(↑q.length:Int))) (.c (AR m ai) (.c (!yK m ai (dV (q.getD i.toNat .m))) (.g ((.c,[.p false],[]))) (.g ((.b,[.d 97 q,.z 62 [] [],.d 97 l,ah len,ah (i64.wrap (i+1))],[])))) .d) .d) .d) (.g ((.a 0,[.m],[])))):af (aU×List aa×List aj)).D:=ae
def atw(m:Nat)(l q)(hl:iS (lO m) l=true)(hq:l.length=q.length):bw an (Ds m) An 0 4 [.d 97 q,.z 62 [] [],.d 97 l,.c .i64 (l.length:Int),.c .i64 0] [] (ml (λ_=>(.c,[.p false],[])) (λ_=>(.a 0,[.m],[])) (cR (kf (kO m)) l q)):=by
 obtain⟨hb,ha⟩:=sI.1 hl;refine pz ad' 0 ae ae cv (λn _=> [.d 97 q,.z 62 [] [],.d 97 l,.c .i64 (l.length:Int),.c .i64 n]) (λ_ _=> []) (kf (kO m)) _ _ (λn a=>a=q.drop n) l q rfl ?_ ?_
 ·rintro n a hn rfl;have hn':n<q.length:=hq▸hn;have hF:kf (kO m) (q.drop n) (l.getD n .m)=bif !kO m (l.getD n .m) (q.getD n .m)then .inl ()else .inr (q.drop (n+1)):=by unfold kf;rw[FT,HU]
  rw[hF];refine oF (aea m l q (l.length:Int) n) (dB (mm hn) (dB (jk hn) (dB (jk hn') (dB (ug ha hn) (jl (λ_=>ke rfl rfl) λ_=>jI ?_ rfl)))));rw[mn hn hb]
 ·intro _ _;have e:=aea m l q (l.length:Int) l.length;rw[mP]at e;exact⟨e,rfl⟩
def Tv(m:Nat):dk:=λm_ key vs os=>match vs,os with
 | [.d 97 q,.z 62 [] [],.d 97 l,.c .i64 len,.c .i64 0],[]=>.I (decide (len=(l.length:Int)) &&Nat.beq l.length q.length &&iS (lO m) l &&Nat.beq m_ 0 &&Nat.beq key 4) (.c (cf (kO m) l q) (.g (.a 0,[.m],[])) (.g (.c,[.p false],[])))
 |_,_=>.d
def atx(m:Nat):cJ an (Ds m) An (Tv m):=by
 intro m_ key vs os r h;unfold Tv at h;split at h
 ·rename_i q l len;obtain⟨h1,h2⟩:=aO h;simp only[au,bC]at h1;obtain⟨⟨⟨⟨rfl,hq⟩,hl⟩,hm⟩,hk⟩:=h1;obtain rfl:=aV hm;obtain rfl:=aV hk;have h3:=atw m l q hl (aV hq);rw[CV _ _ _ (aV hq)]at h3;cases hb:cf (kO m) l q<;>rw[hb]at h2 h3<;>cases h2<;>exact h3
 ·simp[af.D]at h
def Tw(m:Nat):aq| [.d 97 l,.d 97 q,.z 62 [] []],[]=>.I (iS (lO m) l) (.g (.a (.p (cf (kO m) l q)) [])) |_,_=>.d
def aty(m l q):(aI (ay an (Ds m) An (Tv m)) false f101 [.d 97 l,.d 97 q,.z 62 [] []] []).D=((af.c ((↑l.length:Int) !=(↑q.length:Int)) (al (.p false) []) (.c (decide ((↑l.length:Int)=(↑l.length:Int)) &&l.length.beq q.length && (decide (l.length<=cg) &&l.all (lO m)) &&Nat.beq 0 0 &&Nat.beq 4 4) (.c (cf (kO m) l q) (al (.p true) []) (al (.p false) [])) .d))).D:=ae
def atz(m:Nat):(∀k,aH k ((Ds m) k))->aH 101 (Tw m):=λhC=>dN aW c_ hC ad' rfl (atx m) λp r u h=>by
 unfold Tw at h;split at h
 ·rename_i l q;obtain⟨h1,h2⟩:=aO h;refine(aty m l q).trans (bS ?_ h2);rw[FU];refine eu (λh3=> ?_) (λh3=> ?_)
  ·cases h4:cf (kO m) l q with
   |false=>rfl
   |true=>rw[CW h4,gq]at h3;cases h3
  ·refine eu (λ_=> ?_) (λh4=> ?_)
   ·cases cf (kO m) l q<;>rfl
   ·have h5:(decide (l.length<=9223372036854775807) &&l.all (lO m))=true:=h1;rw[mQ h3,aD (rfl:(l.length:Int)=(l.length:Int)),h5]at h4;cases h4
 ·cases h
def Lq(m:Nat):aq| [.d 97 l,.d 97 q,.z 62 [] []],[]=>.I (iS (lO m) l) (.g (.a (.p (cf (kO m) l q)) [])) |_,_=>.d
def atA(m:Nat):FuncId->aq:=aL [(101,Tw m)]
def atB(m l q):(aI (ay an (atA m) Qv aK) false f61 [.d 97 l,.d 97 q,.z 62 [] []] []).D=((af.c (decide (l.length<=cg) &&l.all (lO m)) (al (.p (cf (kO m) l q)) []) .d)).D:=ae
def aeb(m:Nat)(hC:∀k,aH k (Ds m k)):aH 61 (Lq m):=bI (aA (atz m hC) aQ) ati λp r u h=>by
 unfold Lq at h;split at h
 ·rename_i l q;exact(atB m l q).trans h
 ·cases h
def atC(m:Nat):FuncId->aq:=aL [(102,Lo 20),(61,Lq m)]
def atD(m k no nm ty ca ar bo el k' no' nm' ty' ca' ar' bo' el'):(aI (ay an (atC m) Qu aK) false f62 [dL k no nm ty ca ar bo el,dL k' no' nm' ty' ca' ar' bo' el'] []).D=((letI ai:af aC:=al (.p false) [];af.c (k==k') (.c (nm==nm') (.c (ty==ty') (.c (ca==ca') (.c (decide (ar.length<=cg) &&ar.all (oI 20)) (.c (cf (lN 20) ar ar') (.c (decide (bo.length<=cg) &&bo.all (lO m)) (.c (cf (kO m) bo bo') (.c (decide (el.length<=cg) &&el.all (lO m)) (al (.p (cf (kO m) el el')) []) .d) ai) .d) ai) .d) ai) ai) ai) ai):af aC).D:=ae
def atE(m:Nat)(k no:Int)(nm)(ty:Int)(ca ar bo el)(k' no':Int)(nm')(ty':Int)(ca' ar' bo' el'):yK (m+1) (dL k no nm ty ca ar bo el) (dL k' no' nm' ty' ca' ar' bo' el')=
 (((((((k==k') && (nm==nm')) && (ty==ty')) && (ca==ca')) &&cf (lN 20) ar ar') &&cf (kO m) bo bo') &&cf (kO m) el el'):=rfl
def aec:∀m:Nat,aH 62 (Lp m)
 |0=>λargs ao out h=>by
  unfold Lp at h;split at h
  ·obtain⟨h1,_⟩:=aO h;cases h1
  ·cases h
 |m+1=>dN aW c_ (aA (ad9 20 (aA (ad_ 20) aQ)) (aA (aeb m (aA (aec m) aQ)) aQ)) ath rfl cv λp q r h=>by
  unfold Lp at h;split at h
  ·rename_i k no nm ty ca ar bo el k' no' nm' ty' ca' ar' bo' el';obtain⟨h1,h2⟩:=aO h;refine(atD m k no nm ty ca ar bo el k' no' nm' ty' ca' ar' bo' el').trans (bS ?_ h2);rw[atE];have h3:(((decide (ar.length<=9223372036854775807) &&ar.all (oI 20)) && (decide (bo.length<=9223372036854775807) &&bo.all (lO m))) && (decide (el.length<=9223372036854775807) &&el.all (lO m)))=true:=h1;rw[au,au]at h3;obtain⟨⟨h4,h5⟩,h6⟩:=h3;rw[h4,h5,h6];cases k==k'<;>cases nm==nm'<;>cases ty==ty'<;>cases ca==ca'<;>cases cf (lN 20) ar ar'<;>cases cf (kO m) bo bo'<;>rfl
  ·cases h
def aed:=aR 60 Ao ae
def nS:aa->aa->Bool:=λv w=>(v.D 0).bJ==(w.D 0).bJ && ((v.D 1).I==(w.D 1).I &&true)
def aee(l q len i):(cB (ay an (aL []) Ao aK) 0 4 (cq Ao 0) [.d 101 l,.d 101 q,ah len,ah i] []).D=((letI ai:=l.getD i.toNat .m;letI ak:=q.getD i.toNat .m;af.c (decide (i<len)) (.c (decide (0<=i) &&decide (i<(↑l.length:Int))) (.c (decide (0<=i) &&decide (i<(↑q.length:Int))) (.c (!((ai.D 0).bJ==(ak.D 0).bJ && ((ai.D 1).I==(ak.D 1).I &&true))) (.g ((.c,[.p false],[]))) (.g ((.b,[.d 101 l,.d 101 q,ah len,ah (i64.wrap (i+1))],[])))) .d) .d) (.g ((.a 0,[.m],[])))):af (aU×List aa×List aj)).D:=ae
def atF(l q)(hb:l.length<=bP)(hq:l.length=q.length):bw an (aL []) Ao 0 4 [.d 101 l,.d 101 q,.c .i64 (l.length:Int),.c .i64 0] [] (ml (λ_=>(.c,[.p false],[])) (λ_=>(.a 0,[.m],[])) (cR (kf nS) l q)):=by
 refine pz aed 0 ae ae cv (λn _=> [.d 101 l,.d 101 q,.c .i64 (l.length:Int),.c .i64 n]) (λ_ _=> []) (kf nS) _ _ (λn a=>a=q.drop n) l q rfl ?_ ?_
 ·rintro n a hn rfl;have hn':n<q.length:=hq▸hn;have hF:kf nS (q.drop n) (l.getD n .m)=bif !nS (l.getD n .m) (q.getD n .m)then .inl ()else .inr (q.drop (n+1)):=by unfold kf;rw[FT,HU]
  rw[hF];refine oF (aee l q (l.length:Int) n) (dB (mm hn) (dB (jk hn) (dB (jk hn') (jl (λ_=>ke rfl rfl) λ_=>jI ?_ rfl))));rw[mn hn hb]
 ·intro _ _;have e:=aee l q (l.length:Int) l.length;rw[mP]at e;exact⟨e,rfl⟩
def Tx:dk:=λm_ key vs os=>match vs,os with
 | [.d 101 l,.d 101 q,.c .i64 len,.c .i64 0],[]=>.I (decide (len=(l.length:Int)) &&Nat.beq l.length q.length &&decide (l.length<=bP) &&Nat.beq m_ 0 &&Nat.beq key 4) (.c (cf nS l q) (.g (.a 0,[.m],[])) (.g (.c,[.p false],[])))
 |_,_=>.d
def atG:cJ an (aL []) Ao Tx:=by
 intro m_ key vs os r h;unfold Tx at h;split at h
 ·rename_i l q len;obtain⟨h1,h2⟩:=aO h;simp only[au,bC]at h1;obtain⟨⟨⟨⟨rfl,hq⟩,hl⟩,hm⟩,hk⟩:=h1;obtain rfl:=aV hm;obtain rfl:=aV hk;have h3:=atF l q hl (aV hq);rw[CV _ _ _ (aV hq)]at h3;cases hb:cf nS l q<;>rw[hb]at h2 h3<;>cases h2<;>exact h3
 ·simp[af.D]at h
def Ty:aq| [.d 101 l,.d 101 q],[]=>.I (decide (l.length<=bP)) (.g (.a (.p (cf nS l q)) [])) |_,_=>.d
def atH(l q):(aI (ay an (aL []) Ao Tx) false f60 [.d 101 l,.d 101 q] []).D=((af.c ((↑l.length:Int) !=(↑q.length:Int)) (al (.p false) []) (.c (decide ((↑l.length:Int)=(↑l.length:Int)) &&l.length.beq q.length &&decide (l.length<=cg) &&Nat.beq 0 0 &&Nat.beq 4 4) (.c (cf nS l q) (al (.p true) []) (al (.p false) [])) .d))).D:=ae
def atI:aH 60 Ty:=dN aW c_ aQ aed rfl atG λp r u h=>by
 unfold Ty at h;split at h
 ·rename_i l q;obtain⟨h1,h2⟩:=aO h;refine(atH l q).trans (bS ?_ h2);rw[FU];refine eu (λh3=> ?_) (λh3=> ?_)
  ·cases h4:cf nS l q with
   |false=>rfl
   |true=>rw[CW h4,gq]at h3;cases h3
  ·refine eu (λ_=> ?_) (λh4=> ?_)
   ·cases cf nS l q<;>rfl
   ·have h5:decide (l.length<=9223372036854775807)=true:=h1;rw[mQ h3,aD (rfl:(l.length:Int)=(l.length:Int)),h5]at h4;cases h4
 ·cases h
def aef:=aR 89 Ap ae
def fW:aa->aa->Bool:=λv w=>v.I==w.I
def aeg(l q len i):(cB (ay an (aL []) Ap aK) 0 4 (cq Ap 0) [.d 3 l,.d 3 q,ah len,ah i] []).D=((af.c (decide (i<len)) (.c (decide (0<=i) &&decide (i<(↑l.length:Int))) (.c (decide (0<=i) &&decide (i<(↑q.length:Int))) (.c ((l.getD i.toNat .m).I !=(q.getD i.toNat .m).I) (.g ((.c,[.p false],[]))) (.g ((.b,[.d 3 l,.d 3 q,ah len,ah (i64.wrap (i+1))],[])))) .d) .d) (.g ((.a 0,[.m],[]))))).D:=ae
def atJ(l q)(hb:l.length<=bP)(hq:l.length=q.length):bw an (aL []) Ap 0 4 [.d 3 l,.d 3 q,.c .i64 (l.length:Int),.c .i64 0] [] (ml (λ_=>(.c,[.p false],[])) (λ_=>(.a 0,[.m],[])) (cR (kf fW) l q)):=by
 refine pz aef 0 ae ae cv (λn _=> [.d 3 l,.d 3 q,.c .i64 (l.length:Int),.c .i64 n]) (λ_ _=> []) (kf fW) _ _ (λn a=>a=q.drop n) l q rfl ?_ ?_
 ·rintro n a hn rfl;have hn':n<q.length:=hq▸hn;have hF:kf fW (q.drop n) (l.getD n .m)=bif !fW (l.getD n .m) (q.getD n .m)then .inl ()else .inr (q.drop (n+1)):=by unfold kf;rw[FT,HU]
  rw[hF];refine oF (aeg l q (l.length:Int) n) (dB (mm hn) (dB (jk hn) (dB (jk hn') (jl (λ_=>ke rfl rfl) λ_=>jI ?_ rfl))));rw[mn hn hb]
 ·intro _ _;have e:=aeg l q (l.length:Int) l.length;rw[mP]at e;exact⟨e,rfl⟩
def Tz:dk:=λm_ key vs os=>match vs,os with
 | [.d 3 l,.d 3 q,.c .i64 len,.c .i64 0],[]=>.I (decide (len=(l.length:Int)) &&Nat.beq l.length q.length &&decide (l.length<=bP) &&Nat.beq m_ 0 &&Nat.beq key 4) (.c (cf fW l q) (.g (.a 0,[.m],[])) (.g (.c,[.p false],[])))
 |_,_=>.d
def atK:cJ an (aL []) Ap Tz:=by
 intro m_ key vs os r h;unfold Tz at h;split at h
 ·rename_i l q len;obtain⟨h1,h2⟩:=aO h;simp only[au,bC]at h1;obtain⟨⟨⟨⟨rfl,hq⟩,hl⟩,hm⟩,hk⟩:=h1;obtain rfl:=aV hm;obtain rfl:=aV hk;have h3:=atJ l q hl (aV hq);rw[CV _ _ _ (aV hq)]at h3;cases hb:cf fW l q<;>rw[hb]at h2 h3<;>cases h2<;>exact h3
 ·simp[af.D]at h
def Gw:aq| [.d 3 l,.d 3 q],[]=>.I (decide (l.length<=bP)) (.g (.a (.p (cf fW l q)) [])) |_,_=>.d
def atL(l q):(aI (ay an (aL []) Ap Tz) false f89 [.d 3 l,.d 3 q] []).D=((af.c ((↑l.length:Int) !=(↑q.length:Int)) (al (.p false) []) (.c (decide ((↑l.length:Int)=(↑l.length:Int)) &&l.length.beq q.length &&decide (l.length<=cg) &&Nat.beq 0 0 &&Nat.beq 4 4) (.c (cf fW l q) (al (.p true) []) (al (.p false) [])) .d))).D:=ae
def TA:aH 89 Gw:=dN aW c_ aQ aef rfl atK λp r u h=>by
 unfold Gw at h;split at h
 ·rename_i l q;obtain⟨h1,h2⟩:=aO h;refine(atL l q).trans (bS ?_ h2);rw[FU];refine eu (λh3=> ?_) (λh3=> ?_)
  ·cases h4:cf fW l q with
   |false=>rfl
   |true=>rw[CW h4,gq]at h3;cases h3
  ·refine eu (λ_=> ?_) (λh4=> ?_)
   ·cases cf fW l q<;>rfl
   ·have h5:decide (l.length<=9223372036854775807)=true:=h1;rw[mQ h3,aD (rfl:(l.length:Int)=(l.length:Int)),h5]at h4;cases h4
 ·cases h
def atM:FuncId->aq:=aL [(34,Gu),(60,Ty),(61,Lq 20)]
def atN(nm ps rs bo ct nm' ps' rs' bo' ct'):(aI (ay an atM Qx aK) false f31 [aG nm ps rs bo ct,aG nm' ps' rs' bo' ct'] []).D=((letI ai:af aC:=al (.p false) [];af.c (fm nm ps rs bo) (.c (fm nm' ps' rs' bo') (.c (nm==nm') (.c (rs==rs') (.c (decide (ps.length<=cg)) (.c (cf nS ps ps') (.c (decide (bo.length<=cg) &&bo.all (lO 20)) (al (.p (cf (kO 20) bo bo')) []) .d) ai) .d) ai) ai) ai) ai):af aC).D:=ae
def Ls{f:aa->Int}:∀(l:List aa)(d:Int),sR f l d≠0->∀x∈l,f x≠0
 | [],_,_,x,hx=>by cases hx
 |y::r,d,h,x,hx=>by
  unfold sR at h;split at h
  ·exact absurd rfl h
  ·rename_i h1;rcases List.mem_cons.1 hx with rfl |hx
   ·exact h1
   ·exact Ls r _ h x hx
def aeh:∀(m:Nat)(e:aa),cW m e≠0->AP m e=true
 |0,e,h=>absurd rfl h
 |m+1,e,h=>by
  unfold cW at h;split at h
  ·rename_i hf;have hl:=(Ld hf).1;rw[AP,sI];have nq:bP=9223372036854775807:=rfl;refine⟨ab,List.all_eq_true.2 λx hx=> ?_⟩;exact aeh m (bB x) (by rw[bB,Le];exact Ls _ _ h x hx)
  ·exact absurd rfl h
def TB{p:aa->Bool}:∀(l:List aa)(n:Nat),(bc p l n).isSome=false->∀x∈l,p x=false
 | [],_,_,x,hx=>by cases hx
 |y::r,n,h,x,hx=>by
  unfold bc at h;split at h
  ·cases h
  ·rename_i h1;rcases List.mem_cons.1 hx with rfl |hx
   ·exact h1
   ·exact TB r _ h x hx
def TC{ty:Int}(h:qv k nm ty ca ar bo el=true):ar.length<=8/\iS (oI 20) ar=true:=by
 unfold qv at h;simp only[au,kr]at h;obtain⟨⟨_,h1⟩,h2⟩:=h;have h3:=eS h1;have h4:=adU k.toNat;have h5:ar.length<=8:=by unfold uC at h3;omega
 refine⟨h5,sI.2 ⟨by have:bP=9223372036854775807:=rfl;omega,List.all_eq_true.2 λx hx=> ?_⟩⟩;have h6:=TB _ _ h2 x hx;refine aeh 20 (bB x) λh7=> ?_;have h8:AN (bB x)=false:=h6;unfold AN at h8;rw[h7]at h8;cases h8
def aei{m:Nat}(ih:∀l n,0<=n->n<=200->(bn m l n).1=true->iS (lO m) l=true):∀(l:List aa)(n:Int),0<=n->n<=200->(eZ (bn m) l n).1=true->l.all (lO (m+1))=true
 | [],n,_,_,h=>rfl
 |s::r,n,h0,h1,h=>by
  unfold eZ at h;split at h
  ·cases h
  ·rename_i h2;have h2':n+1<=200:=Int.not_lt.1 λx=>h2 (Or.inl x);have hh:lj s=true:=by cases e:lj s with |true=>rfl |false=>exact absurd (Or.inr e) h2
   split at h
   ·cases h
   ·rename_i h3;split at h
    ·cases h
    ·rename_i h4;have a3:(bn m (aP s) (n+1)).1=true:=by simpa using h3
     have a4:(bn m (bf s) (bn m (aP s) (n+1)).2).1=true:=by simpa using h4
     have b3:=kM m (aP s) (n+1) ab h2';have b4:=kM m (bf s) (bn m (aP s) (n+1)).2 ab (b3.2.2 a3).1;rw[ja,au];refine⟨?_,aei ih r _ ab (b4.2.2 a4).1 h⟩;show(iS (oI 20) (dG s) &&iS (lO m) (aP s) &&iS (lO m) (bf s))=true;rw[(TC hh).2,ih _ _ ab h2' a3,ih _ _ ab (b3.2.2 a3).1 a4];rfl
def aej:∀(m:Nat)(l:List aa)(n:Int),0<=n->n<=200->(bn m l n).1=true->iS (lO m) l=true
 |0,l,n,_,_,h=>by have:l=[]:=List.isEmpty_iff.1 h;subst this;rfl
 |m+1,l,n,h0,h1,h=>by
  have hs:=(kM (m+1) l n h0 h1).2.2 h;have hb:l.length<=bP:=by have:bP=9223372036854775807:=rfl;omega
  exact sI.2 ⟨hb,aei (aej m) l n h0 h1 h⟩
def Dt{rs:Int}(h:fm nm ps rs bo=true):iS (lO 20) bo=true/\ps.length<=8:=by unfold fm at h;simp only[au,kr]at h;have h1:=eS h.1.1.1.2;exact⟨aej 20 bo 0 ab ab h.2,ab⟩
def Gx(a b:aa):Bool:=fm (fo a) (iE a) (jY a) (eJ a) &&fm (fo b) (iE b) (jY b) (eJ b) && (fo a==fo b) && (jY a==jY b) &&cf nS (iE a) (iE b) &&cf (kO 20) (eJ a) (eJ b)
def TD:aq
 | [.u [.h nm,.d 101 ps,.c .i64 rs,.d 97 bo,.c .i64 ct],.u [.h nm',.d 101 ps',.c .i64 rs',.d 97 bo',.c .i64 ct']],[]=>.g (.a (.p (Gx (aG nm ps rs bo ct) (aG nm' ps' rs' bo' ct'))) [])
 |_,_=>.d
def aek(nm ps)(rs:Int)(bo)(ct:Int)(nm' ps')(rs':Int)(bo')(ct':Int):Gx (aG nm ps rs bo ct) (aG nm' ps' rs' bo' ct')=(fm nm ps rs bo &&fm nm' ps' rs' bo' && (nm==nm') && (rs==rs') &&cf nS ps ps' &&cf (kO 20) bo bo'):=rfl
def atO:aH 31 TD:=dN aW c_ (aA Tm (aA atI (aA (aeb 20 (aA (aec 20) aQ)) aQ))) atk rfl cv λp q r h=>by
 unfold TD at h;split at h
 ·rename_i nm ps rs bo ct nm' ps' rs' bo' ct';refine(atN nm ps rs bo ct nm' ps' rs' bo' ct').trans (bS ?_ h);rw[aek];refine eu (λh1=> ?_) (λh1=>by rw[h1];rfl);have h2:(decide (bo.length<=9223372036854775807) &&bo.all (lO 20))=true:=(Dt h1).1;have h3:=(Dt h1).2;have h4:decide (ps.length<=nat_lit 9223372036854775807)=true:=aD (show ps.length<=9223372036854775807 from ab);rw[h1,h2,h4];cases fm nm' ps' rs' bo'<;>cases nm==nm'<;>cases rs==rs'<;>cases cf nS ps ps'<;>rfl
 ·cases h
def Gy:FuncId->aq:=aL [(31,TD)]
def lP(v:aa):aa:=aG (fo v) (iE v) (jY v) (eJ v) (uE v)
def ael:=aR 59 Aq ae
def oJ:aa->aa->Bool:=λv w=>Gx (lP v) (lP w)
def wC:aa->Bool:=λ_=>true
def aem(l q len i):(cB (ay an Gy Aq aK) 0 4 (cq Aq 0) [.d 43 q,.z 31 [] [],.d 43 l,ah len,ah i] []).D=((letI ai:=l.getD i.toNat .m;letI ak:=q.getD i.toNat .m;af.c (decide (i<len)) (.c (decide (0<=i) &&decide (i<(↑l.length:Int))) (.c (decide (0<=i) &&decide (i<(↑q.length:Int))) (.c (!Gx (aG (ai.D 0).bJ (ai.D 1).U (ai.D 2).I (ai.D 3).U (ai.D 4).I) (aG (ak.D 0).bJ (ak.D 1).U (ak.D 2).I (ak.D 3).U (ak.D 4).I)) (.g ((.c,[.p false],[]))) (.g ((.b,[.d 43 q,.z 31 [] [],.d 43 l,ah len,ah (i64.wrap (i+1))],[])))) .d) .d) (.g ((.a 0,[.m],[])))):af (aU×List aa×List aj)).D:=ae
def atP(l q)(hl:iS (wC) l=true)(hq:l.length=q.length):bw an Gy Aq 0 4 [.d 43 q,.z 31 [] [],.d 43 l,.c .i64 (l.length:Int),.c .i64 0] [] (ml (λ_=>(.c,[.p false],[])) (λ_=>(.a 0,[.m],[])) (cR (kf (oJ)) l q)):=by
 obtain⟨hb,ha⟩:=sI.1 hl;refine pz ael 0 ae ae cv (λn _=> [.d 43 q,.z 31 [] [],.d 43 l,.c .i64 (l.length:Int),.c .i64 n]) (λ_ _=> []) (kf (oJ)) _ _ (λn a=>a=q.drop n) l q rfl ?_ ?_
 ·rintro n a hn rfl;have hn':n<q.length:=hq▸hn;have hF:kf (oJ) (q.drop n) (l.getD n .m)=bif !oJ (l.getD n .m) (q.getD n .m)then .inl ()else .inr (q.drop (n+1)):=by unfold kf;rw[FT,HU]
  rw[hF];refine oF (aem l q (l.length:Int) n) (dB (mm hn) (dB (jk hn) (dB (jk hn') (jl (λ_=>ke rfl rfl) λ_=>jI ?_ rfl))));rw[mn hn hb]
 ·intro _ _;have e:=aem l q (l.length:Int) l.length;rw[mP]at e;exact⟨e,rfl⟩
def TE:dk:=λm_ key vs os=>match vs,os with
 | [.d 43 q,.z 31 [] [],.d 43 l,.c .i64 len,.c .i64 0],[]=>.I (decide (len=(l.length:Int)) &&Nat.beq l.length q.length &&iS (wC) l &&Nat.beq m_ 0 &&Nat.beq key 4) (.c (cf (oJ) l q) (.g (.a 0,[.m],[])) (.g (.c,[.p false],[])))
 |_,_=>.d
def atQ:cJ an Gy Aq (TE):=by
 intro m_ key vs os r h;unfold TE at h;split at h
 ·rename_i q l len;obtain⟨h1,h2⟩:=aO h;simp only[au,bC]at h1;obtain⟨⟨⟨⟨rfl,hq⟩,hl⟩,hm⟩,hk⟩:=h1;obtain rfl:=aV hm;obtain rfl:=aV hk;have h3:=atP l q hl (aV hq);rw[CV _ _ _ (aV hq)]at h3;cases hb:cf (oJ) l q<;>rw[hb]at h2 h3<;>cases h2<;>exact h3
 ·simp[af.D]at h
def TF:aq| [.d 43 l,.d 43 q,.z 31 [] []],[]=>.I (iS (wC) l) (.g (.a (.p (cf (oJ) l q)) [])) |_,_=>.d
def atS(l q):(aI (ay an Gy Aq (TE)) false f59 [.d 43 l,.d 43 q,.z 31 [] []] []).D=((af.c ((↑l.length:Int) !=(↑q.length:Int)) (al (.p false) []) (.c (decide ((↑l.length:Int)=(↑l.length:Int)) &&l.length.beq q.length && (decide (l.length<=cg) &&l.all wC) &&Nat.beq 0 0 &&Nat.beq 4 4) (.c (cf oJ l q) (al (.p true) []) (al (.p false) [])) .d))).D:=ae
def atT:(∀k,aH k (Gy k))->aH 59 (TF):=λhC=>dN aW c_ hC ael rfl (atQ) λp r u h=>by
 unfold TF at h;split at h
 ·rename_i l q;obtain⟨h1,h2⟩:=aO h;refine(atS l q).trans (bS ?_ h2);rw[FU];refine eu (λh3=> ?_) (λh3=> ?_)
  ·cases h4:cf (oJ) l q with
   |false=>rfl
   |true=>rw[CW h4,gq]at h3;cases h3
  ·refine eu (λ_=> ?_) (λh4=> ?_)
   ·cases cf (oJ) l q<;>rfl
   ·have h5:(decide (l.length<=9223372036854775807) &&l.all (wC))=true:=h1;rw[mQ h3,aD (rfl:(l.length:Int)=(l.length:Int)),h5]at h4;cases h4
 ·cases h
def TG:aq| [.d 43 l,.d 43 q,.z 31 [] []],[]=>.I (iS wC l) (.g (.a (.p (cf oJ l q)) [])) |_,_=>.d
def atU:FuncId->aq:=aL [(59,TF)]
def atV(l q):(aI (ay an atU Qw aK) false f30 [.d 43 l,.d 43 q,.z 31 [] []] []).D=((af.c (decide (l.length<=nat_lit 9223372036854775807) &&l.all wC)
 (.g (aC.a (aa.p (cf oJ l q)) []))
 .d)).D:=ae
def atW:aH 30 TG:=bI (aA (atT (aA atO aQ)) aQ) atj λp r u h=>by
 unfold TG at h;split at h
 ·rename_i l q;exact(atV l q).trans h
 ·cases h
def AS(a b:List aa):Bool:=bF a &&bF b &&cf oJ a b
def TH:aq| [.u [.d 43 l],.u [.d 43 q]],[]=>.g (.a (.p (AS l q)) []) |_,_=>.d
def atX:FuncId->aq:=aL [(27,wz),(30,TG)]
def atY(l q):(aI (ay an atX Qy aK) false f15 [.u [.d 43 l],.u [.d 43 q]] []).D=((af.c (eY (bF l)==0) (.c (eY (bF q)==0) (.c (decide (l.length<=cg) &&l.all wC) (al (.p (cf oJ l q)) []) .d) (al (.p false) [])) (al (.p false) []))).D:=ae
def aen(b:Bool):(eY b==0)=b:=by cases b<;>rfl
def Lt(h:bF l=true):l.length<=20:=by unfold bF at h;rw[au,kr]at h;have:=eS h.1;omega
def atZ:aH 15 TH:=bI (aA yJ (aA atW aQ)) atl λp r u h=>by
 unfold TH at h;split at h
 ·rename_i l q;refine(atY l q).trans (bS ?_ h);unfold AS;rw[aen,aen];refine eu (λh1=> ?_) (λh1=>by rw[h1];rfl);have h2:(decide (l.length<=9223372036854775807) &&l.all wC)=true:=by have:=Lt h1;rw[aD (show l.length<=9223372036854775807 from ab)];exact List.all_eq_true.2 λ_ _=>rfl
  rw[h1,h2];cases bF q<;>rfl
 ·cases h
def at0:=aR 282 Qz ae
def Lu:=aR 287 qi ae
def at1:=aR 286 QA ae
def at2:=aR 288 QB ae
def at3:FuncId->aq:=aL [(111,yz)]
def at4(s t):(aI (ay an at3 QB aK) false f288 [.h s,.h t] []).D=((af.c (!eX s t) (al (.q [.h s,.p false]) []) (.c (decide (0<=(↑t.length:Int)) &&decide ((↑t.length:Int)<=(↑s.length:Int)) &&decide ((↑s.length:Int)<=(↑s.length:Int))) (al (.q [.h (List.take ((↑s.length:Int).toNat- (↑t.length:Int).toNat) (List.drop (↑t.length:Int).toNat s)),.p true]) []) .d))).D:=ae
def uF(s t:List UInt8):List UInt8:=match eX s t with |true=>s.drop t.length |false=>s
def Du:aq| [.h s,.h t],[]=>.g (.a (.q [.h (uF s t),.p (eX s t)]) []) |_,_=>.d
def at5:aH 288 Du:=bI (aA adj aQ) at2 λp q r h=>by
 unfold Du at h;split at h
 ·rename_i s t;refine(at4 s t).trans (bS ?_ h);unfold uF;cases hp:eX s t with
  |false=>rfl
  |true=>
   have hl:=ads hp;refine kK rfl (aZ ?_ ?_)
   ·rw[aD (show(0:Int)<=(t.length:Int)from ab),aD (show(t.length:Int)<=(s.length:Int)from ab),aD (j1 _)];rfl
   ·rw[dE,dE,pL (by rw[tA];exact bj _)]
 ·cases h
def at6(s t):(aI (ay an (aL [(288,Du)]) QA aK) false f286 [.h s,.h t] []).D=((af.g (aC.a (aa.q [aa.h (uF s t),aa.p (eX s t)]) []))).D:=ae
def at7:aH 286 Du:=bI (aA at5 aQ) at1 λp q r h=>by
 unfold Du at h;split at h
 ·exact(at6 _ _).trans h
 ·cases h
def aeo(s k):(cB (ay an (aL []) qi aK) 0 2 (cq qi 0) [.h s,.L 0] [.f false s k]).D=((letI ai:=(↑(s.getD k 0).toNat:Int);letI ak:af (aU×List aa×List aj):=.g ((.c,[.h s,.p false],[]));letI aw:af (aU×List aa×List aj):=.g ((.b,[.h s,.L 0],[.f false s (k+1)]));af.c (k.blt s.length) (.c ((s.getD k 0).toNat.blt 128) (.c (!decide (ai<48)) (.c (!decide (ai>57)) (.c (ai==48) (.c ((↑k:Int)==0) (.c (decide ((↑s.length:Int)>1)) ak aw) aw) aw) ak) ak) .d) (.g ((.a 0,[.h s,.m],[])))):af (aU×List aa×List aj)).D:=ae
def sT(n:Nat):List UInt8->Nat->Bool
 | [],_=>true
 |c::r,k=>bif !decide ((c.toNat:Int)<48)then(bif !decide ((c.toNat:Int)>57)then(bif (c.toNat:Int)==48 then(bif (k:Int)==0 then(bif decide ((n:Int)>1)then false else sT n r (k+1))else sT n r (k+1))else sT n r (k+1))else false)else false
def TI(s:List UInt8)(b:Bool):aU×List aa×List aj:=bif b then(.a 0,[.h s,.m],[])else(.c,[.h s,.p false],[])
def aep(s)(ha:nQ s=true):∀(j k:Nat),k+j=s.length->bw an (aL []) qi 0 2 [.h s,.L 0] [.f false s k] (TI s (sT s.length (s.drop k) k))
 |0,k,h=>by
  rw[tz ab];refine bw.D Lu 0 ae ae cv ((aeo s k).trans (kK (by
   cases hb:Nat.blt k s.length with
   |false=>rfl
   |true=>rw[Ep]at hb;omega) rfl)) rfl
 |j+1,k,h=>by
  have hk:k<s.length:=ab;have hd:s.drop k=s[k]::s.drop (k+1):=oY hk;have hg:s.getD k 0=s[k]:=by rw[dD,cV hk];rfl
  have hc:Nat.blt (s[k]).toNat 128=true:=List.all_eq_true.1 ha _ (mE hk);have bg:=(aeo s k).trans (aZ (by rw[Ep];exact hk) rfl);rw[hg,hc]at bg;have ih:=aep s ha j (k+1) ab;have no:∀y,(cB (ay an (aL []) qi aK) 0 2 (cq qi 0) [.h s,.L 0] [.f false s k]).D=some y->y=(.c,[.h s,.p false],[])->bw an (aL []) qi 0 2 [.h s,.L 0] [.f false s k] (TI s false):=λy hy e=>bw.D Lu 0 ae ae cv hy (by subst e;rfl);have go:∀y,(cB (ay an (aL []) qi aK) 0 2 (cq qi 0) [.h s,.L 0] [.f false s k]).D=some y->y=(.b,[.h s,.L 0],[.f false s (k+1)])->bw an (aL []) qi 0 2 [.h s,.L 0] [.f false s k] (TI s (sT s.length (s.drop (k+1)) (k+1))):=λy hy e=>bw.D Lu 0 ae ae cv hy (by subst e;exact ih);rw[hd,sT];cases h1: !decide (((s[k]).toNat:Int)<48)with
  |false=>rw[h1]at bg;exact no _ bg rfl
  |true=>
   cases h2: !decide (((s[k]).toNat:Int)>57)with
   |false=>rw[h1,h2]at bg;exact no _ bg rfl
   |true=>
    cases h3:(((s[k]).toNat:Int)==48)with
    |false=>rw[h1,h2,h3]at bg;exact go _ bg rfl
    |true=>
     cases h4:((k:Int)==0)with
     |false=>rw[h1,h2,h3,h4]at bg;exact go _ bg rfl
     |true=>
      cases h5:decide ((s.length:Int)>1)with
      |false=>rw[h1,h2,h3,h4,h5]at bg;exact go _ bg rfl
      |true=>rw[h1,h2,h3,h4,h5]at bg;exact no _ bg rfl
def TJ:dk:=λm key vs os=>match vs,os with
 | [.h s,.L 0],[.f false t 0]=>.I (decide (s=t) &&nQ s &&Nat.beq m 0 &&Nat.beq key 2) (.c (sT s.length s 0) (.g (.a 0,[.h s,.m],[])) (.g (.c,[.h s,.p false],[])))
 |_,_=>.d
def aua:cJ an (aL []) qi TJ:=by
 intro m key vs os r h;unfold TJ at h;split at h
 ·rename_i s t;obtain⟨h1,h2⟩:=aO h;simp only[au,bC,aNx]at h1;obtain⟨⟨⟨rfl,ha⟩,rfl⟩,rfl⟩:=h1;have h3:=aep s ha s.length 0 ab;rw[oc]at h3;cases hb:sT s.length s 0<;>rw[hb]at h2 h3<;>cases h2<;>exact h3
 ·simp[af.D]at h
def Lv(s:List UInt8):Bool:=sT s.length s 0 && !(s==[])
def TK:aq| [.h s],[]=>.I (nQ s) (.g (.a (.p (Lv s)) [])) |_,_=>.d
def aub(s):(aI (ay an (aL []) qi TJ) false f287 [.h s] []).D=((af.c (decide (s=s) &&nQ s &&Nat.beq 0 0 &&Nat.beq 2 2) (.c (sT s.length s 0) (al (.p !s==[]) []) (al (.p false) [])) .d)).D:=ae
def auc:aH 287 TK:=dN aW c_ aQ Lu rfl aua λp q r h=>by
 unfold TK at h;split at h
 ·rename_i s;obtain⟨h1,h2⟩:=aO h;refine(aub s).trans (bS (aZ ?_ ?_) h2)
  ·rw[aD rfl,h1];rfl
  ·unfold Lv;cases sT s.length s 0<;>rfl
 ·cases h
def TL:List UInt8:=[45]
def sU(s:List UInt8):Int×Int:=bif !!Lv (uF s TL)then(bif eX s TL then(bif uF s TL==[48]then(0,7)else bif oH s then(lL s,0)else(0,7))else bif oH s then(lL s,0)else(0,7))else(0,7)
def TM:aq| [.h s],[]=>.I (nQ s &&decide (s.length<=281474976710656)) (.g (.a (.q [.c .i64 (sU s).1,.c .i64 (sU s).2]) [])) |_,_=>.d
def aud:FuncId->aq:=aL [(286,Du),(287,TK),(113,KY)]
def aue(s):(aI (ay an aud Qz aK) false f282 [.h s] []).D=((letI ai:af aC:=al (.q [ah 0,ah 7]) [];letI ak:af aC:=.c (decide (s.length<=281474976710656)) (.c (oH s) (al (.q [ah (lL s),ah 0]) []) ai) .d;af.c (nQ (uF s [45])) (.c (!!Lv (uF s [45])) (.c (eX s [45]) (.c (uF s [45]==[48]) ai ak) ak) ai) .d):af aC).D:=ae
def auf{s}(t)(h:nQ s=true):nQ (uF s t)=true:=by
 unfold uF;split
 ·exact List.all_eq_true.2 λx hx=>List.all_eq_true.1 h x (List.mem_of_mem_drop hx)
 ·exact h
def aug(r:Int×Int):aC:=.a (.q [.c .i64 r.1,.c .i64 r.2]) []
def auh:aH 282 TM:=bI (aA at7 (aA auc (aA adr aQ))) at0 λp q r h=>by
 unfold TM at h;split at h
 ·rename_i s;obtain⟨h1,h2⟩:=aO h;rw[au]at h1;refine(aue s).trans (bS ?_ h2);refine aZ (auf _ h1.1) ?_;have h3:decide (s.length<=281474976710656)=true:=h1.2;rw[h3];show _=some (aug (sU s));exact bK (λ_=>bK (λ_=>bK (λ_=>rfl) λ_=>aZ rfl (bK (λ_=>rfl) λ_=>rfl)) λ_=>aZ rfl (bK (λ_=>rfl) λ_=>rfl)) λ_=>rfl
 ·cases h
def aE(l:List aa)(a:Int):aj:=.a false [.d 80 l,.c .i64 a]
def br(l:List aa)(a:Int):Bool:=decide (0<=a) &&decide (a<=(l.length:Int)) &&decide (l.length<=1000000) &&l.all Dp
def dy:br l a=true↔0<=a/\a<=(l.length:Int)/\l.length<=1000000/\l.all Dp=true:=by unfold br;rw[au,au,au,bC,bC,bC];exact⟨λ⟨⟨⟨a,b⟩,c⟩,d⟩=>⟨a,b,c,d⟩,λ⟨a,b,c,d⟩=>⟨⟨⟨a,b⟩,c⟩,d⟩⟩
def gk(l:List aa)(a:Int):Int:=((l.getD a.toNat .m).D 0).I
def da(l:List aa)(a:Int):List UInt8:=((l.getD a.toNat .m).D 1).bJ
def bG(l:List aa)(a k:Int)(t:List UInt8):Bool:=decide (a<(l.length:Int)) &&gk l a==k &&da l a==t
def aui:=aR 271 QC ae
def auj:=aR 264 QD ae
def auk:=aR 263 QE ae
def aul:=aR 270 QF ae
def aum:=aR 277 QG ae
def aun:=aR 276 QH ae
def auo:=aR 278 QI ae
def aup:=aR 274 QJ ae
def auq:=aR 279 QK ae
def TN:aq| [.e 0 0,.c .i64 k,.h t],[.a false [.d 80 l,.c .i64 a]]=>.I (br l a) (.g (.a (.p (bG l a k t)) [.a false [.d 80 l,.c .i64 a]])) |_,_=>.d
def aur(l a k t):(aI (ay an (aL []) QC aK) false f271 [.e 0 0,ah k,.h t] [aE l a]).D=((letI ai:=decide (0<=a) &&decide (a<(↑l.length:Int));letI ak:=l.getD a.toNat .m;letI aw:af aC:=al (.p false) [aE l a];af.c (decide (a<(↑l.length:Int))) (.c ai (.c ((ak.D 0).I==k) (.c ai (al (.p ((ak.D 1).bJ==t)) [aE l a]) .d) aw) .d) aw):af aC).D:=ae
def Gz(h0:0<=a)(h:decide (a<(l.length:Int))=true):(decide ((0:Int)<=a) &&decide (a<(l.length:Int)))=true:=by rw[h,aD h0];rfl
def aus:aH 271 TN:=bI aQ aui λp q r h=>by
 unfold TN at h;split at h
 ·rename_i k t l a;obtain⟨h1,h2⟩:=aO h;have h3:=(dy.1 h1).1;refine(aur l a k t).trans (bS ?_ h2);unfold bG;refine eu (λh4=> ?_) (λh4=>by rw[h4];rfl);refine aZ (Gz h3 h4) ?_;rw[h4];refine eu (λh5=> ?_) (λh5=>by rw[show(gk l a==k)=false from h5];rfl);rw[show(gk l a==k)=true from h5];exact aZ (by rw[aD h3];rfl) rfl
 ·cases h
def cU{t}(h:bG l a k t=true):a<(l.length:Int):=by unfold bG at h;rw[au,au,bC]at h;exact h.1.1
def eK(h:br l a=true)(h1:a<(l.length:Int)):br l (a+1)=true:=by rw[dy]at h⊢;exact⟨ab,ab,h.2.2⟩
def oK(h:br l a=true):i64.wrap (a+1)=a+1/\i64.wrap (a-1)=a-1:=by rw[dy]at h;exact⟨ep ab ab,ep ab ab⟩
def Dv:aq| [.e 0 0,.c .i64 k,.h t],[.a false [.d 80 l,.c .i64 a]]=>.I (br l a) (.c (bG l a k t) (.g (.a (.p true) [.a false [.d 80 l,.c .i64 (a+1)]])) (.g (.a (.p false) [.a false [.d 80 l,.c .i64 a]]))) |_,_=>.d
def aut:FuncId->aq:=aL [(271,TN)]
def auu(l a k t):(aI (ay an aut QD aK) false f264 [.e 0 0,ah k,.h t] [aE l a]).D=((af.c (br l a) (.c (!bG l a k t) (al (.p false) [aE l a]) (al (.p true) [aE l (i64.wrap (a+1))])) .d)).D:=ae
def Lw:aH 264 Dv:=bI (aA aus aQ) auj λp q r h=>by
 unfold Dv at h;split at h
 ·rename_i k t l a;obtain⟨h1,h2⟩:=aO h;refine(auu l a k t).trans (bS ?_ h2);rw[(oK h1).1];refine aZ h1 ?_;cases bG l a k t<;>rfl
 ·cases h
def gl(at_ e:Int):aa:=.C 377 (.u [.c .i64 at_,.c .i64 e])
def Dw:aq| [.e 0 0,.c .i64 f,.c .i64 e],[.a false [.d 80 l,.c .i64 a]]=>.g (.b (gl f e) [.a false [.d 80 l,.c .i64 a]]) |_,_=>.d
def auv(l a f e):(aI (ay an (aL []) QF aK) false f270 [.e 0 0,ah f,ah e] [aE l a]).D=((af.g (.b (gl f e) [aE l a]))).D:=ae
def Lx:aH 270 Dw:=bI aQ aul λp q r h=>by
 unfold Dw at h;split at h
 ·exact(auv _ _ _ _).trans h
 ·cases h
def Dx:aq| [.e 0 0,.h t],[.a false [.d 80 l,.c .i64 a]]=>.I (br l a) (.c (bG l a 4 t) (.g (.a (.q []) [.a false [.d 80 l,.c .i64 (a+1)]])) (.g (.b (.C 377 (.u [.c .i64 a,.c .i64 7])) [.a false [.d 80 l,.c .i64 a]]))) |_,_=>.d
def auw:FuncId->aq:=aL [(264,Dv),(270,Dw)]
def auy(l a t):(aI (ay an auw QE aK) false f263 [.e 0 0,.h t] [aE l a]).D=((af.c (br l a) (.c (bG l a 4 t) (al (.q []) [aE l (a+1)]) (dc (gl a 7) [aE l a])) .d)).D:=ae
def Ly:aH 263 Dx:=bI (aA Lw (aA Lx aQ)) auk λp q r h=>by
 unfold Dx at h;split at h
 ·rename_i t l a;obtain⟨h1,h2⟩:=aO h;refine(auy l a t).trans (bS ?_ h2);refine aZ h1 ?_;cases bG l a 4 t<;>rfl
 ·cases h
def nT(l:List aa)(a:Int):Bool:= !decide (a>=(l.length:Int)) && !(gk l a !=1) &&jX (da l a)
def Lz:aq| [.e 0 0],[.a false [.d 80 l,.c .i64 a]]=>.I (br l a) (.c (nT l a) (.g (.a (.q [.h (da l a),.p true]) [.a false [.d 80 l,.c .i64 (a+1)]])) (.g (.a (.q [.h [],.p false]) [.a false [.d 80 l,.c .i64 a]]))) |_,_=>.d
def auz:FuncId->aq:=aL [(63,wv)]
def auA(l a):(aI (ay an auz QG aK) false f277 [.e 0 0] [aE l a]).D=((letI ai:=(↑l.length:Int);letI ak:=decide (0<=a) &&decide (a<ai);letI aw:=l.getD a.toNat .m;letI aS:af aC:=al (.q [.h [],.p false]) [aE l a];letI bx:=i64.wrap (a+1)-1;af.c (!decide (a>=ai)) (.c ak (.c (!(aw.D 0).I !=1) (.c ak (.c (!jX (aw.D 1).bJ) aS (.c (decide (0<=i64.wrap bx) &&decide (i64.wrap bx<ai)) (al (.q [.h ((l.getD (i64.wrap bx).toNat .m).D 1).bJ,.p true]) [aE l (i64.wrap (a+1))]) .d)) .d) aS) .d) aS):af aC).D:=ae
def TO(h0:0<=a)(h:(!decide (a>=(l.length:Int)))=true):(decide ((0:Int)<=a) &&decide (a<(l.length:Int)))=true:=by have h1:=eS (nJ h);rw[aD h0,aD (show a<(l.length:Int)from ab)];rfl
def aeq:aH 277 Lz:=bI (aA yE aQ) aum λp q r h=>by
 unfold Lz at h;split at h
 ·rename_i l a;obtain⟨h1,h2⟩:=aO h;have h3:=(dy.1 h1)
  refine(auA l a).trans (bS ?_ h2);have e1:i64.wrap (a+1-1)=a:=by rw[ep ab ab];omega
  rw[(oK h1).1,e1];unfold nT;refine eu (λh4=> ?_) (λh4=>by rw[h4];rfl);have h5:=TO h3.1 h4;rw[h5,h4];refine aZ rfl (eu (λh6=> ?_) (λh6=>by rw[show(!(gk l a !=1))=false from h6];rfl));rw[show(!(gk l a !=1))=true from h6];refine aZ rfl (eu (λh7=> ?_) (λh7=> ?_))
  ·rw[show jX (da l a)=false from nJ h7];rfl
  ·rw[show jX (da l a)=true from mQ h7];rfl
 ·cases h
def yL(h:nT l a=true):a<(l.length:Int):=by unfold nT at h;rw[au,au]at h;have:=eS (nJ h.1.1);omega
def auB:FuncId->aq:=aL [(282,TM)]
def auC(l a):(aI (ay an auB QH aK) false f276 [.e 0 0] [aE l a]).D=((letI ai:=decide (0<=a) &&decide (a<(↑l.length:Int));letI ak:=l.getD a.toNat .m;letI aw:af aC:=al (.q [ah 0,.p false]) [aE l a];letI aS:=sU (ak.D 1).bJ;af.c (!decide (a>=(↑l.length:Int))) (.c ai (.c ((ak.D 0).I !=2) aw (.c ai (.c (nQ (ak.D 1).bJ &&decide ((ak.D 1).bJ.length<=281474976710656)) (.c (!aS.snd !=0) (.c (decide (aS.fst<0)) aw (al (.q [ah aS.fst,.p true]) [aE l (i64.wrap (a+1))])) aw) .d) .d)) .d) aw):af aC).D:=ae
def Dy(l:List aa)(a:Int):Bool:= !decide (a>=(l.length:Int)) && !(gk l a !=2) && !((sU (da l a)).2 !=0) && !decide ((sU (da l a)).1<0)
def TP(l:List aa)(a:Int):Int:=(sU (da l a)).1
def auD(h:Dy l a=true):a<(l.length:Int):=by unfold Dy at h;rw[au,au,au]at h;have:=eS (nJ h.1.1.1);omega
def TQ:aq| [.e 0 0],[.a false [.d 80 l,.c .i64 a]]=>.I (br l a) (.c (Dy l a) (.g (.a (.q [.c .i64 (TP l a),.p true]) [.a false [.d 80 l,.c .i64 (a+1)]])) (.g (.a (.q [.c .i64 0,.p false]) [.a false [.d 80 l,.c .i64 a]]))) |_,_=>.d
def auE(h:l.all Dp=true)(h0:0<=a)(h1:a<(l.length:Int))(h2:gk l a=2):(nQ (da l a) &&decide ((da l a).length<=281474976710656))=true:=by have h3:=ug h (show a.toNat<l.length from ab);have h4:(!(gk l a==2) || (nQ (da l a) &&decide ((da l a).length<=281474976710656)))=true:=h3;rw[h2]at h4;exact h4
def auF:aH 276 TQ:=bI (aA auh aQ) aun λp q r h=>by
 unfold TQ at h;split at h
 ·rename_i l a;obtain⟨h1,h2⟩:=aO h;have h3:=(dy.1 h1)
  refine(auC l a).trans (bS ?_ h2);rw[(oK h1).1];unfold Dy;refine eu (λh4=> ?_) (λh4=>by rw[h4];rfl);have h5:=TO h3.1 h4;rw[h5,h4];refine aZ rfl (eu (λh6=>by rw[show(gk l a !=2)=true from h6];rfl) (λh6=> ?_));have h6':(gk l a !=2)=false:=h6;have h7:gk l a=2:=by simpa using h6'
  have h8:=eS (nJ h4);rw[h6'];refine aZ rfl (aZ (auE h3.2.2.2 h3.1 ab h7) (eu (λh9=> ?_) (λh9=>by rw[show(!((sU (da l a)).2 !=0))=false from h9];rfl)));rw[show(!((sU (da l a)).2 !=0))=true from h9];refine eu (λh10=>by rw[show decide ((sU (da l a)).1<0)=true from h10];rfl) (λh10=>by rw[show decide ((sU (da l a)).1<0)=false from h10];rfl)
 ·cases h
def auG:FuncId->aq:=aL [(270,Dw)]
def auH(l a d):(aI (ay an auG QI aK) false f278 [.e 0 0,ah d] [aE l a]).D=((af.c (decide (d>=40)) (dc (gl (i64.wrap (a-1)) 8) [aE l a]) (al (ah (i64.wrap (d+1))) [aE l a]))).D:=ae
def LA:aq| [.e 0 0,.c .i64 d],[.a false [.d 80 l,.c .i64 a]]=>.I (br l a &&decide (0<=d)) (.c (decide (d>=40)) (.g (.b (.C 377 (.u [.c .i64 (a-1),.c .i64 8])) [.a false [.d 80 l,.c .i64 a]])) (.g (.a (.c .i64 (d+1)) [.a false [.d 80 l,.c .i64 a]]))) |_,_=>.d
def aer:aH 278 LA:=bI (aA Lx aQ) auo λp q r h=>by
 unfold LA at h;split at h
 ·rename_i d l a;obtain⟨h1,h2⟩:=aO h;rw[au,bC]at h1;refine(auH l a d).trans (bS ?_ h2);rw[(oK h1.1).2];refine eu (λh4=>by rw[h4];rfl) (λh4=> ?_);have h5:=eS h4;rw[h4,ep (n:=d+1) ab ab];rfl
 ·cases h
def auI:FuncId->aq:=aL [(174,Gq),(270,Dw)]
def auJ(l a k op num nm ar):(aI (ay an auI QJ aK) false f274 [.e 0 0,b9 k op num nm ar] [aE l a]).D=((af.c (eY (lM (b9 k op num nm ar)) !=0) (dc (gl (i64.wrap (a-1)) 8) [aE l a]) (al (b9 k op num nm ar) [aE l a]))).D:=ae
def GA:aq| [.e 0 0,.u [.c .i64 k,.c .i64 op,.c .i64 num,.h nm,.d 177 ar]],[.a false [.d 80 l,.c .i64 a]]=>.I (br l a) (.c (lM (b9 k op num nm ar)) (.g (.a (.u [.c .i64 k,.c .i64 op,.c .i64 num,.h nm,.d 177 ar]) [.a false [.d 80 l,.c .i64 a]])) (.g (.b (.C 377 (.u [.c .i64 (a-1),.c .i64 8])) [.a false [.d 80 l,.c .i64 a]]))) |_,_=>.d
def GB(b:Bool):(eY b !=0)= !b:=by cases b<;>rfl
def TR:aH 274 GA:=bI (aA S5 (aA Lx aQ)) aup λp q r h=>by
 unfold GA at h;split at h
 ·rename_i k op num nm ar l a;obtain⟨h1,h2⟩:=aO h;refine(auJ l a k op num nm ar).trans (bS ?_ h2);rw[(oK h1).2,GB];cases lM (b9 k op num nm ar)<;>rfl
 ·cases h
def auK:FuncId->aq:=aL [(263,Dx),(277,Lz),(270,Dw)]
def auL(l a):(aI (ay an auK QK aK) false f279 [.e 0 0] [aE l a]).D=((af.c (br l a) (.c (bG l a 4 [40]) (.c (br l (a+1)) (.c (nT l (a+1)) (.c (br l (a+1+1)) (.c (bG l (a+1+1) 4 [41]) (al (.u [ah 7,ah 0,ah 0,.h (da l (a+1)),.w]) [aE l (a+1+1+1)]) (dc (gl (a+1+1) 7) [aE l (a+1+1)])) .d) (dc (gl (a+1) 7) [aE l (a+1)])) .d) (dc (gl a 7) [aE l a])) .d)).D:=ae
def auM:=aR 284 QL ae
def auN:=aR 281 QM ae
def auO:=aR 285 QN ae
def auP:=aR 283 J7 ae
def auQ:=aR 273 QO ae
def auR:=aR 272 QP ae
def auS:=aR 280 QQ ae
def aes:=aR 265 Ar ae
def mU(s:List UInt8)(r:Int):aa:=.u [.h s,.c .i64 r]
def Dz:List aa:=[mU [43] 4,mU [45] 4,mU [42] 5,mU [47] 5,mU [37] 5,mU [61,61] 3,mU [33,61] 3,mU [60] 3,mU [60,61] 3,mU [62] 3,mU [62,61] 3,mU [38,38] 2,mU [124,124] 1,mU [45] 0,mU [33] 0]
def TS:aq| [],[]=>.g (.a (.d 391 Dz) []) |_,_=>.d
def auT:(aI (ay an (aL []) QL aK) false f284 [] []).D=some (.a (.d 391 Dz) []):=ae
def auU:aH 284 TS:=bI aQ auM λp q r h=>by
 unfold TS at h;split at h
 ·exact auT.trans h
 ·cases h
def TT:aq| [.u [.h s,.c .i64 r],.e 0 0],[.a false [.h t]]=>.g (.a (.p (decide (r>0) &&s==t)) [.a false [.h t]]) |_,_=>.d
def auV(s t r):(aI (ay an (aL []) QN aK) false f285 [.u [.h s,ah r],.e 0 0] [az [.h t]]).D=((af.c (decide (r>0)) (al (.p (s==t)) [az [.h t]]) (al (.p false) [az [.h t]]))).D:=ae
def auW:aH 285 TT:=bI aQ auO λp q u h=>by
 unfold TT at h;split at h
 ·rename_i s r t;refine(auV s t r).trans (bS ?_ h);cases decide (r>0)<;>rfl
 ·cases h
def yM(t:List UInt8):List (List UInt8)->Int->Int
 | [],_=> -1
 |s::r,k=>bif s==t then k else yM t r (k+1)
def kP(t:List UInt8):Int:=yM t [[43],[45],[42],[47],[37],[61,61],[33,61],[60],[60,61],[62],[62,61],[38,38],[124,124]] 0
def TU(v:aa)(p:List UInt8×Int):Bool:=match v with | .u [.h s,.c .i64 r]=>s==p.1 &&r==p.2 |_=>false
def LB:List aa->List (List UInt8×Int)->Bool
 | [],[]=>true
 |v::r,p::q=>TU v p &&LB r q
 |_,_=>false
def auX{p:List UInt8×Int}(h:TU v p=true):v=mU p.1 p.2:=by
 unfold TU at h;split at h
 ·rw[au,qM,qM]at h;rw[h.1,h.2];rfl
 ·cases h
def aet:∀{l:List aa}{q:List (List UInt8×Int)},LB l q=true->l=q.map λp=>mU p.1 p.2
 | [],[],_=>rfl
 |v::r,p::q,h=>by rw[LB,au]at h;rw[auX h.1,aet h.2];rfl
 | [],_::_,h=>by cases h
 |_::_,[],h=>by cases h
def auY:List (List UInt8×Int):=[([43],4),([45],4),([42],5),([47],5),([37],5),([61,61],3),([33,61],3),([60],3),([60,61],3),([62],3),([62,61],3),([38,38],2),([124,124],1),([45],0),([33],0)]
def aeu:FuncId->aq:=aL [(285,TT)]
def auZ(t):(aI (ay an aeu J7 (cG an aeu J7 20 20).d) false f283 [.d 391 Dz,.z 285 [] [.e 0 0]] [az [.h t]]).D=((letI ai:List aj:=[az [.h t]];letI ak:=i64.wrap ((0:Int)+1)+1;letI aw:=i64.wrap ak+1;letI aS:=i64.wrap aw+1;letI bx:=i64.wrap aS+1;letI bX:=i64.wrap bx+1;letI cI:=i64.wrap bX+1;letI fi:=i64.wrap cI+1;letI eA:=i64.wrap fi+1;letI jC:=i64.wrap eA+1;letI iw:=i64.wrap jC+1;af.c (decide ((4:Int)>0) && [43]==t) (al (ah 0) ai) (.c (decide ((4:Int)>0) && [45]==t) (al (ah (i64.wrap ((0:Int)+1))) ai) (.c (decide ((5:Int)>0) && [42]==t) (al (ah (i64.wrap ak)) ai) (.c (decide ((5:Int)>0) && [47]==t) (al (ah (i64.wrap aw)) ai) (.c (decide ((5:Int)>0) && [37]==t) (al (ah (i64.wrap aS)) ai) (.c (decide ((3:Int)>0) && [61,61]==t) (al (ah (i64.wrap bx)) ai) (.c (decide ((3:Int)>0) && [33,61]==t) (al (ah (i64.wrap bX)) ai) (.c (decide ((3:Int)>0) && [60]==t) (al (ah (i64.wrap cI)) ai) (.c (decide ((3:Int)>0) && [60,61]==t) (al (ah (i64.wrap fi)) ai) (.c (decide ((3:Int)>0) && [62]==t) (al (ah (i64.wrap eA)) ai) (.c (decide ((3:Int)>0) && [62,61]==t) (al (ah (i64.wrap jC)) ai) (.c (decide ((2:Int)>0) && [38,38]==t) (al (ah (i64.wrap iw)) ai) (.c (decide ((1:Int)>0) && [124,124]==t) (al (ah (i64.wrap (i64.wrap iw+1))) ai) (al (ah (-1:Int)) ai)))))))))))))):af aC).D:=ae
def TV:aq| [.d 391 vs,.z 285 [] [.e 0 0]],[.a false [.h t]]=>.I (LB vs auY) (.g (.a (.c .i64 (kP t)) [.a false [.h t]])) |_,_=>.d
def au0(t:List UInt8)(n:Int):aC:=.a (.c .i64 n) [.a false [.h t]]
def au1:aH 283 TV:=dN aW c_ (aA auW aQ) auP rfl (sH 20) λp q r h=>by
 unfold TV at h;split at h
 ·rename_i vs t;obtain⟨h1,h2⟩:=aO h;obtain rfl:=aet h1;refine(auZ t).trans (bS ?_ h2);show _=some (au0 t (kP t));unfold kP
  repeat (unfold yM;refine bK (λ_=>rfl) (λ_=> ?_))
  rfl
 ·cases h
def DA(i:Int):Int:=((Dz.getD i.toNat .m).D 1).I
def wD(t:List UInt8):Int×Int:=bif decide (kP t<0)then(0,0)else(kP t+1,DA (kP t))
def aev(t):∀(l:List (List UInt8))(k:Int),0<=k-> -1<=yM t l k/\yM t l k<k+l.length
 | [],k,h=>by show-1<=(-1:Int)/\(-1:Int)<k+(0:Nat);omega
 |s::r,k,h=>by
  unfold yM;have:=aev t r (k+1) ab;cases s==t with
  |true=>show-1<=k/\k<k+((r.length+1:Nat):Int);omega
  |false=>show-1<=yM t r (k+1)/\yM t r (k+1)<k+((r.length+1:Nat):Int);omega
def au2(t): -1<=kP t/\kP t<13:=aev t _ 0 ab
def TW:aq| [.h t],[]=>.g (.a (.q [.c .i64 (wD t).1,.c .i64 (wD t).2]) []) |_,_=>.d
def au3:FuncId->aq:=aL [(284,TS),(283,TV)]
def au4(t):(aI (ay an au3 QM aK) false f281 [.h t] []).D=((af.c (decide (kP t<0)) (al (.q [ah 0,ah 0]) []) (.c (decide (0<=kP t) &&decide (kP t<(↑(nat_lit 15):Int))) (al (.q [ah (i64.wrap (kP t+1)),ah ((Dz.getD (kP t).toNat .m).D 1).I]) []) .d))).D:=ae
def au5:FuncId->aq:=aL [(281,TW)]
def au6(l a):(aI (ay an au5 QO aK) false f273 [.e 0 0] [aE l a]).D=((letI ai:=decide (0<=a) &&decide (a<(↑l.length:Int));letI ak:=l.getD a.toNat .m;letI aw:af aC:=al (.q [ah 0,ah 0]) [aE l a];af.c (!decide (a>=(↑l.length:Int))) (.c ai (.c ((ak.D 0).I !=4) aw (.c ai (al (.q [ah (wD (ak.D 1).bJ).fst,ah (wD (ak.D 1).bJ).snd]) [aE l a]) .d)) .d) aw):af aC).D:=ae
def au7:aH 281 TW:=bI (aA auU (aA au1 aQ)) auN λp q r h=>by
 unfold TW at h;split at h
 ·rename_i t;have hl:=au2 t;refine(au4 t).trans (bS ?_ h);unfold wD;refine eu (λh1=>by rw[h1];rfl) (λh1=> ?_);have h2:=eS h1;rw[h1,ep (n:=kP t+1) ab ab];refine aZ ?_ rfl;rw[aD (show 0<=kP t from ab),aD (show kP t<((nat_lit 15:Nat):Int)from(show kP t<15 from ab))];rfl
 ·cases h
def e_(l:List aa)(a:Int):Int×Int:=bif !decide (a>=(l.length:Int)) && !(gk l a !=4)then wD (da l a)else(0,0)
def TX:aq| [.e 0 0],[.a false [.d 80 l,.c .i64 a]]=>.I (br l a) (.g (.a (.q [.c .i64 (e_ l a).1,.c .i64 (e_ l a).2]) [.a false [.d 80 l,.c .i64 a]])) |_,_=>.d
def au8:aH 273 TX:=bI (aA au7 aQ) auQ λp q r h=>by
 unfold TX at h;split at h
 ·rename_i l a;obtain⟨h1,h2⟩:=aO h;have h3:=(dy.1 h1)
  refine(au6 l a).trans (bS ?_ h2);unfold e_;refine eu (λh4=> ?_) (λh4=>by rw[h4];rfl);have h5:=TO h3.1 h4;rw[h5,h4];refine aZ rfl (eu (λh6=>by rw[show(gk l a !=4)=true from h6];rfl) (λh6=> ?_));rw[show(gk l a !=4)=false from h6];rfl
 ·cases h
structure b6 where
 c:Bool
 b:aa
 a:Int
 d:Int
 e:Int
variable{r:b6}{b:Int->Int->b6}
def fA(v:aa)(a:Int):b6:=⟨true,v,a,0,0⟩
def dM(f e a:Int):b6:=⟨false,.m,a,f,e⟩
def h_(r:b6)(k:b6->b6):b6:=bif r.c then k r else r
def wE(l:List aa)(r:b6):aC:=bif r.c then .a (bB r.b) [aE l r.a]else .b (.C 377 (.u [.c .i64 r.d,.c .i64 r.e])) [aE l r.a]
def DB(l:List aa)(r:b6):af aC:=.c r.c (.g (.a (bB r.b) [aE l r.a])) (.g (.b (.C 377 (.u [.c .i64 r.d,.c .i64 r.e])) [aE l r.a]))
def LC(l r):(DB l r).D=some (wE l r):=by unfold DB wE;cases r.c<;>rfl
def yN(h:r.c=false):dO (.g (.b (.C 377 (.u [.c .i64 r.d,.c .i64 r.e])) [aE l r.a])) (wE l r):=.U (by unfold wE;rw[h];rfl)
def LD(h:r.c=true):dO (.g (.a (bB r.b) [aE l r.a])) (wE l r):=.U (by unfold wE;rw[h];rfl)
def GC{op:Int}:dO (.g (.a (.u [.c .i64 k,.c .i64 op,.c .i64 num,.h nm,.w]) [aE l a])) (wE l (fA (b9 k op num nm []) a)):=.nL (.a _ (.V (.D _ (.D _ (.D _ (.D _ (.I (.D _) .U)))))))
def LF(l:List aa)(a:Int):b6:=bif bG l a 4 [40]then(bif nT l (a+1)then(bif bG l (a+1+1) 4 [41]then fA (b9 7 0 0 (da l (a+1)) []) (a+1+1+1)else dM (a+1+1) 7 (a+1+1))else dM (a+1) 7 (a+1))else dM a 7 a
def TY:aq| [.e 0 0],[.a false [.d 80 l,.c .i64 a]]=>.I (br l a) (DB l (LF l a)) |_,_=>.d
def au9:aH 279 TY:=pX (aA Ly (aA aeq (aA Lx aQ))) auq λp q r h=>by
 unfold TY at h;split at h
 ·rename_i l a;obtain⟨h1,h2⟩:=aO h;rw[LC]at h2;cases h2;refine .V (auL l a) (.D h1 (.I (λh3=> ?_) λ_=>.U rfl));have o1:=eK h1 (cU h3);refine .D o1 (.I (λh4=> ?_) λ_=>.U rfl);have o2:=eK o1 (yL h4);exact .D o2 (.I (λh5=>GC) λ_=>.U rfl)
 ·cases h
def wF(v:aa)(a:Int):b6:=bif lM v then fA v a else dM (a-1) 8 a
def DC(o:Int->Int->b6)(op d a:Int):b6:=bif decide (d>=40)then dM (a-1) 8 a else h_ (o (d+1) a) λr=>wF (b9 4 op 0 [] [bB r.b]) r.a
def LG(l:List aa)(o:Int->Int->b6)(b:Int->Int->Int->b6)(d a:Int):b6:=
 bif Dy l a then fA (b9 1 0 (TP l a) [] []) (a+1)else
 bif nT l a then(bif bG l (a+1) 4 [91]then
   (bif decide (d>=40)then dM (a+1+1-1) 8 (a+1+1)else h_ (b (d+1) 1 (a+1+1)) λr=>bif bG l r.a 4 [93]then wF (b9 6 0 0 (da l a) [bB r.b]) (r.a+1)else dM r.a 7 r.a)
  else fA (b9 3 0 0 (da l a) []) (a+1))else
 bif bG l a 3 [116,114,117,101]then fA (b9 2 0 1 [] []) (a+1)else bif bG l a 3 [102,97,108,115,101]then fA (b9 2 0 0 [] []) (a+1)else
 bif bG l a 3 [108,101,110]then LF l (a+1)else bif bG l a 4 [45]then DC o 14 d (a+1)else bif bG l a 4 [33]then DC o 15 d (a+1)else
 bif bG l a 4 [40]then(bif decide (d>=40)then dM (a+1-1) 8 (a+1)else h_ (b (d+1) 1 (a+1)) λr=>bif bG l r.a 4 [41]then fA r.b (r.a+1)else dM r.a 7 r.a)else dM a 7 a
def oL(l:List aa)(b:Int->Int->Int->b6)(d least:Int):Nat->aa->Int->b6
 |0,_,a=>dM 0 7 a
 |k+1,x,a=>bif (e_ l a).1==0 then fA x a else bif decide ((e_ l a).2<least)then fA x a else
  h_ (b d ((e_ l a).2+1) (a+1)) λr=>h_ (wF (b9 5 (e_ l a).1 0 [] [bB x,bB r.b]) r.a) λq=>oL l b d least k q.b q.a
def cr(l:List aa):Nat->(Int->Int->b6)×(Int->Int->Int->b6)
 |0=>(λ_ a=>dM 0 7 a,λ_ _ a=>dM 0 7 a)
 |m+1=>(LG l (cr l m).1 (cr l m).2,λd least a=>h_ (LG l (cr l m).1 (cr l m).2 d a) λr=>oL l (cr l m).2 d least (l.length+1) (bB r.b) r.a)
def fB(l:List aa)(m:Nat)(d a:Int):Bool:=br l a &&decide ((l.length:Int)-a<m) &&decide (0<=d) &&decide (d<=100)
def yO(m:Nat):aq| [.e 0 0,.c .i64 d],[.a false [.d 80 l,.c .i64 a]]=>.I (fB l m d a) (DB l ((cr l m).1 d a)) |_,_=>.d
def uG(m:Nat):aq| [.e 0 0,.c .i64 d,.c .i64 q],[.a false [.d 80 l,.c .i64 a]]=>.I (fB l m d a &&decide (0<=q) &&decide (q<=100)) (DB l ((cr l m).2 d q a)) |_,_=>.d
def LH(m:Nat):aq| [.e 0 0,.c .i64 op,.c .i64 d],[.a false [.d 80 l,.c .i64 a]]=>.I (fB l m d a) (DB l (DC (cr l m).1 op d a)) |_,_=>.d
def au_(m:Nat):FuncId->aq:=aL [(278,LA),(272,yO m),(274,GA)]
def au'(m l a op d):(aI (ay an (au_ m) QQ aK) false f280 [.e 0 0,ah op,ah d] [aE l a]).D=((letI ai:=(cr l m).fst (d+1) a;letI ak:=b9 4 op 0 [] [bB ai.b];af.c (br l a &&decide (0<=d)) (.c (decide (d>=40)) (dc (gl (a-1) 8) [aE l a]) (.c (fB l m (d+1) a) (.c (ai.c) (.c (br l ai.a) (.c (lM ak) (al ak [aE l ai.a]) (dc (gl (ai.a-1) 8) [aE l ai.a])) .d) (dc (gl ai.d ai.e) [aE l ai.a])) .d)) .d):af aC).D:=ae
def ava(m:Nat):FuncId->aq:=aL [(276,TQ),(277,Lz),(264,Dv),(263,Dx),(278,LA),(274,GA),(279,TY),(280,LH m),(265,uG m)]
def avb(m l a d):(aI (ay an (ava m) QP aK) false f272 [.e 0 0,ah d] [aE l a]).D=((letI ai:=br l a;letI ak:=a+1;letI aw:=cr l m;letI aS:=aw.snd (d+1) (1:Int) (a+1+1);letI bx:=b9 6 0 0 (da l a) [bB aS.b];letI bX:=LF l ak;letI cI:=DC aw.fst (14:Int) d ak;letI fi:=DC aw.fst (15:Int) d ak;letI eA:=aw.snd (d+1) (1:Int) ak;af.c ai (.c (Dy l a) (al (.u [ah 1,ah 0,ah (TP l a),.h [],.w]) [aE l ak]) (.c ai (.c (nT l a) (.c (br l ak) (.c (bG l ak 4 [91]) (.c (br l (a+1+1) &&decide (0<=d)) (.c (decide (d>=40)) (dc (gl (a+1+1-1) 8) [aE l (a+1+1)]) (.c (fB l m (d+1) (a+1+1) &&decide ((0:Int)<=1) &&decide ((1:Int)<=100)) (.c (aS.c) (.c (br l aS.a) (.c (bG l aS.a (4:Int) [93]) (.c (br l (aS.a+1)) (.c (lM bx) (al bx [aE l (aS.a+1)]) (dc (gl (aS.a+1-1) 8) [aE l (aS.a+1)])) .d) (dc (gl aS.a 7) [aE l aS.a])) .d) (dc (gl aS.d aS.e) [aE l aS.a])) .d)) .d) (al (.u [ah 3,ah 0,ah 0,.h (da l a),.w]) [aE l ak])) .d) (.c ai (.c (bG l a 3 [116,114,117,101]) (al (.u [ah 2,ah 0,ah 1,.h [],.w]) [aE l ak]) (.c ai (.c (bG l a 3 [102,97,108,115,101]) (al (.u [ah 2,ah 0,ah 0,.h [],.w]) [aE l ak]) (.c ai (.c (bG l a 3 [108,101,110]) (.c (br l ak) (.c (bX.c) (al (bB bX.b) [aE l bX.a]) (dc (gl bX.d bX.e) [aE l bX.a])) .d) (.c ai (.c (bG l a 4 [45]) (.c (fB l m d ak) (.c (cI.c) (al (bB cI.b) [aE l cI.a]) (dc (gl cI.d cI.e) [aE l cI.a])) .d) (.c ai (.c (bG l a 4 [33]) (.c (fB l m d ak) (.c (fi.c) (al (bB fi.b) [aE l fi.a]) (dc (gl fi.d fi.e) [aE l fi.a])) .d) (.c ai (.c (bG l a 4 [40]) (.c (br l ak &&decide (0<=d)) (.c (decide (d>=40)) (dc (gl (a+1-1) 8) [aE l ak]) (.c (fB l m (d+1) ak &&decide ((0:Int)<=1) &&decide ((1:Int)<=100)) (.c (eA.c) (.c (br l eA.a) (.c (bG l eA.a (4:Int) [41]) (al (bB eA.b) [aE l (eA.a+1)]) (dc (gl eA.a 7) [aE l eA.a])) .d) (dc (gl eA.d eA.e) [aE l eA.a])) .d)) .d) (dc (gl a 7) [aE l a])) .d)) .d)) .d)) .d)) .d)) .d)) .d)) .d):af aC).D:=ae
def LI(m:Nat):FuncId->aq:=aL [(272,yO (m+1)),(273,TX),(265,uG m),(274,GA)]
def AT(k op num:Int)(nm:List UInt8)(ar:aa):aj:=.a false [.c .i64 k,.c .i64 op,.c .i64 num,.h nm,ar]
def avc(m l a d q k op num nm ar):(cB (ay an (LI m) Ar aK) 1 2 (cq Ar 0) [.e 0 0,ah d,ah q,.e 1 0,.e 2 0] [aE l a,AT 0 0 0 [] .w,AT k op num nm (.d 177 ar)]).D=((letI ai:=e_ l a;letI ak:af (aU×List aa×List aj):=.g ((.c,[.e 1 0],[aE l a,az [ah k,ah op,ah num,.h nm,.d 177 ar]]));letI aw:=i64.wrap (a+1);letI aS:=ai.snd+1;letI bx:=(cr l m).snd d (i64.wrap aS) aw;letI bX:List aa:=[ah 0,ah 0,ah 0,.h [],.w];af.c (br l a) (.c (!ai.fst==0) (.c (decide (ai.snd<q)) ak (.c (fB l m d aw &&decide (0<=i64.wrap aS) &&decide (i64.wrap aS<=100)) (.c (bx.c) (.c (br l bx.a) (.c (lM (b9 5 ai.fst (0:Int) [] [b9 k op num nm ar,bB bx.b])) (.g ((.b,[.e 0 0,ah d,ah q,.e 1 0,.e 2 0],[aE l bx.a,az bX,az [ah 5,ah ai.fst,ah 0,.h [],.d 177 [b9 k op num nm ar,bB bx.b]]]))) (.g ((.e (gl (bx.a-1) 8),[.e 1 0],[aE l bx.a,az bX])))) .d) (.g ((.e (gl bx.d bx.e),[.e 1 0],[aE l bx.a,az bX])))) .d)) ak) .d):af (aU×List aa×List aj)).D:=ae
def fp(l:List aa)(a:Int)(r:b6):Prop:=(r.c=true->a<r.a/\r.a<=(l.length:Int))/\(r.c=false->0<=r.d/\r.d<=(l.length:Int)/\r.e≠0)
section
variable{l:List aa}{a:Int}
def cZ{b:Bool}{x y}(h1:b=true->fp l a x)(h2:b=false->fp l a y):fp l a (bif b then x else y):=by
 cases b with
 |true=>exact h1 rfl
 |false=>exact h2 rfl
def jn(h1:a<n)(h2:n<=(l.length:Int)):fp l a (fA v n):=⟨λ_=>⟨h1,h2⟩,λh=>by cases h⟩
def eQ(h1:0<=f)(h2:f<=(l.length:Int))(h3:e≠0):fp l a (dM f e n):=⟨λh=>(by cases h),λ_=>⟨h1,h2,h3⟩⟩
def ki{a':Int}{k:b6->b6}(h:fp l a' r)(hk:a'<r.a->r.a<=(l.length:Int)->fp l a (k r)):fp l a (h_ r k):=by
 unfold h_;cases hr:r.c with
 |true=>exact hk (h.1 hr).1 (h.1 hr).2
 |false=>exact⟨λh'=>(by rw[show(bif false then k r else r)=r from rfl,hr]at h';cases h'),λ_=>h.2 hr⟩
def TZ(h1:a<n)(h2:n<=(l.length:Int))(h0:0<=a):fp l a (wF v n):=cZ (λ_=>jn h1 h2) λ_=>eQ ab ab av
def wG{a':Int}(h:fp l a' r)(ha:a<=a'):fp l a r:=⟨λhr=>⟨(by have:=(h.1 hr).1;omega),(h.1 hr).2⟩,h.2⟩
def avd(h0:0<=a)(h1:a<=(l.length:Int)):fp l a (LF l a):=by refine cZ (λh2=> ?_) λ_=>eQ h0 h1 av;have:=cU h2;refine cZ (λh3=> ?_) λ_=>eQ ab ab av;have:=yL h3;refine cZ (λh4=> ?_) λ_=>eQ ab ab av;have:=cU h4;exact jn ab ab
end
def LJ(l:List aa)(m:Nat):Prop:=(∀d a,0<=a->a<=(l.length:Int)->(l.length:Int)-a<m->fp l a ((cr l m).1 d a))/\∀d q a,0<=a->a<=(l.length:Int)->(l.length:Int)-a<m->fp l a ((cr l m).2 d q a)
def aew(h:LJ l m)(op d a:Int)(h0:0<a)(h1:a<=(l.length:Int))(h2:(l.length:Int)-a<m):fp l a (DC (cr l m).1 op d a):=by refine cZ (λ_=>eQ ab ab av) λ_=>ki (h.1 (d+1) a ab h1 h2) λh3 h4=>TZ h3 h4 ab
def aex(h:LJ l m)(d a:Int)(h0:0<=a)(h1:a<=(l.length:Int))(h2:(l.length:Int)-a<(m+1:Nat)):fp l a (LG l (cr l m).1 (cr l m).2 d a):=by
 refine cZ (λh3=>jn ab (by have:=auD h3;omega)) λ_=> ?_;refine cZ (λh3=> ?_) λ_=> ?_
 ·have:=yL h3;refine cZ (λh4=> ?_) λ_=>jn ab ab;have:=cU h4;refine cZ (λ_=>eQ ab ab av) λ_=>ki (h.2 (d+1) 1 (a+1+1) ab ab ab) λh5 h6=> ?_;refine cZ (λh7=> ?_) λ_=>eQ ab ab av;have:=cU h7;exact TZ ab ab h0
 refine cZ (λh3=>jn ab (by have:=cU h3;omega)) λ_=> ?_;refine cZ (λh3=>jn ab (by have:=cU h3;omega)) λ_=> ?_;refine cZ (λh3=>wG (avd ab (by have:=cU h3;omega)) ab) λ_=> ?_;refine cZ (λh3=>wG (aew h 14 d (a+1) ab (by have:=cU h3;omega) ab) ab) λ_=> ?_;refine cZ (λh3=>wG (aew h 15 d (a+1) ab (by have:=cU h3;omega) ab) ab) λ_=> ?_;refine cZ (λh3=> ?_) λ_=>eQ ab ab av;have:=cU h3;refine cZ (λ_=>eQ ab ab av) λ_=>ki (h.2 (d+1) 1 (a+1) ab ab ab) λh5 h6=> ?_;refine cZ (λh7=> ?_) λ_=>eQ ab ab av;have:=cU h7;exact jn ab ab
def aey(h:((e_ l a).1==0)=false):a<(l.length:Int):=by
 unfold e_ at h;cases h1:(!decide (a>=(l.length:Int)) && !(gk l a !=4))with
 |true=>rw[au]at h1;have:=eS (nJ h1.1);omega
 |false=>rw[h1]at h;cases h
def ave:∀n:Nat,0<=DA n/\DA n<=5
 |0=>av
 |1=>av
 |2=>av
 |3=>av
 |4=>av
 |5=>av
 |6=>av
 |7=>av
 |8=>av
 |9=>av
 |10=>av
 |11=>av
 |12=>av
 |13=>av
 |14=>av
 |n+15=>by
  unfold DA;rw[dE,dD,kY (by simp[Dz])]
  decide
def avf(l)(a:Int):0<=(e_ l a).2/\(e_ l a).2<=5:=by
 unfold e_;cases !decide (a>=(l.length:Int)) && !(gk l a !=4)with
 |false=>exact⟨(by show(0:Int)<=0;decide),(by show(0:Int)<=5;decide)⟩
 |true=>
  show 0<=(wD (da l a)).2/\(wD (da l a)).2<=5;unfold wD;cases h:decide (kP (da l a)<0)with
  |true=>exact⟨(by show(0:Int)<=0;decide),(by show(0:Int)<=5;decide)⟩
  |false=>have h1:=eS h;obtain⟨n,hn⟩:=HR (show 0<=kP (da l a)from ab);show 0<=DA (kP (da l a))/\DA (kP (da l a))<=5;rw[hn];exact ave n
def aez{l}{m:Nat}(h:LJ l m)(d q:Int):∀(k:Nat)(x:aa)(a0 a:Int),0<=a0->a0<a->a<=(l.length:Int)->(l.length:Int)-a<k->(l.length:Int)-a<=m->fp l a0 (oL l (cr l m).2 d q k x a)
 |0,x,a0,a,h0,h1,h2,h3,h4=>ab
 |k+1,x,a0,a,h0,h1,h2,h3,h4=>by refine cZ (λ_=>jn h1 h2) λh5=>cZ (λ_=>jn h1 h2) λ_=> ?_;have:=aey h5;refine ki (h.2 d _ (a+1) ab ab ab) λh6 h7=> ?_;refine ki (TZ (a:=a) ab h7 ab) λh8 h9=> ?_;exact aez h d q k _ a0 _ h0 ab h9 ab ab
def uH(l):∀m:Nat,LJ l m
 |0=>⟨λd a h0 h1 h2=>ab,λd q a h0 h1 h2=>ab⟩
 |m+1=>by have ih:=uH l m;refine⟨λd a h0 h1 h2=>aex ih d a h0 h1 h2,λd q a h0 h1 h2=> ?_⟩;exact ki (aex ih d a h0 h1 h2) λh3 h4=>aez ih d q _ _ a _ h0 h3 h4 ab ab
def gP:fB l m d a=true↔br l a=true/\(l.length:Int)-a<m/\0<=d/\d<=100:=by unfold fB;rw[au,au,au,bC,bC,bC];exact⟨λ⟨⟨⟨a,b⟩,c⟩,d⟩=>⟨a,b,c,d⟩,λ⟨a,b,c,d⟩=>⟨⟨⟨a,b⟩,c⟩,d⟩⟩
def kQ(h:br l a=true)(h0:0<=n)(h1:n<=(l.length:Int)):br l n=true:=by rw[dy]at h⊢;exact⟨h0,h1,h.2.2⟩
def T0(h:br l a=true)(hd:0<=d):(br l a &&decide ((0:Int)<=d))=true:=by rw[h,aD hd];rfl
def avg(hO:aH 272 (yO m)):aH 280 (LH m):=pX (aA aer (aA hO (aA TR aQ))) auS λp q r h=>by
 unfold LH at h;split at h
 ·rename_i op d l a;obtain⟨h1,h2⟩:=aO h;rw[LC]at h2;cases h2;obtain⟨h3,h4,h5,h6⟩:=gP.1 h1;have h7:=dy.1 h3;refine .V (au' m l a op d) (.D (T0 h3 h5) (.I (λ_=>.U rfl) λh8=> ?_));have h9:=eS h8;refine .D (gP.2 ⟨h3,h4,ab,ab⟩) (.I (λh10=> ?_) λh10=>yN h10);have h11:=((uH l m).1 (d+1) a h7.1 h7.2.1 h4).1 h10;exact .D (kQ h3 ab h11.2) (.I (λ_=>.U rfl) λ_=>.U rfl)
 ·cases h
def aeA(h:br l a=true)(h1:(l.length:Int)-a<m)(h2:0<=d)(h3:d<40):(fB l m (d+1) a &&decide ((0:Int)<=1) &&decide ((1:Int)<=100))=true:=by rw[gP.2 ⟨h,h1,ab,ab⟩];rfl
def avh(hU:aH 280 (LH m))(hB:aH 265 (uG m)):aH 272 (yO (m+1)):=yi aW c_ (aA auF (aA aeq (aA Lw (aA Ly (aA aer (aA TR (aA au9 (aA hU (aA hB aQ))))))))) auR rfl cv λp q r h=>by
 unfold yO at h;split at h
 ·rename_i d l a;obtain⟨h1,h2⟩:=aO h;rw[LC]at h2;cases h2;obtain⟨h3,h4,h5,h6⟩:=gP.1 h1;have h7:=dy.1 h3;refine .V (avb m l a d) (.D h3 ?_);show dO _ (wE l (LG l (cr l m).1 (cr l m).2 d a));refine .I (λ_=>GC) λ_=>.D h3 (.I (λh8=> ?_) λ_=>.D h3 (.I (λ_=>GC) λ_=>.D h3 (.I (λ_=>GC) λ_=>.D h3 (.I (λh8=> ?_) λ_=>.D h3 (.I (λh8=> ?_) λ_=>.D h3 (.I (λh8=> ?_) λ_=>.D h3 (.I (λh8=> ?_) λ_=>.U rfl)))))))
  ·have o1:=eK h3 (yL h8);refine .D o1 (.I (λh9=> ?_) λ_=>GC);have o2:=eK o1 (cU h9);have:=cU h9;refine .D (T0 o2 h5) (.I (λ_=>.U rfl) λh10=> ?_);have h11:=eS h10;refine .D (aeA o2 ab h5 ab) (.I (λh12=> ?_) λh12=>yN h12);have h13:=((uH l m).2 (d+1) 1 (a+1+1) ab ab ab).1 h12;have o3:=kQ h3 ab h13.2;refine .D o3 (.I (λh14=> ?_) λ_=>.U rfl);exact .D (eK o3 (cU h14)) (.I (λ_=>.U rfl) λ_=>.U rfl)
  ·have o1:=eK h3 (cU h8);exact .D o1 (.kL (λh12=>LD h12) λh12=>yN h12)
  ·have o1:=eK h3 (cU h8);have:=cU h8;exact .D (gP.2 ⟨o1,ab,h5,h6⟩) (.kL (λh12=>LD h12) λh12=>yN h12)
  ·have o1:=eK h3 (cU h8);have:=cU h8;exact .D (gP.2 ⟨o1,ab,h5,h6⟩) (.kL (λh12=>LD h12) λh12=>yN h12)
  ·have o1:=eK h3 (cU h8);have:=cU h8;refine .D (T0 o1 h5) (.I (λ_=>.U rfl) λh10=> ?_);have h11:=eS h10;refine .D (aeA o1 ab h5 ab) (.I (λh12=> ?_) λh12=>yN h12);have h13:=((uH l m).2 (d+1) 1 (a+1) ab ab ab).1 h12;have o3:=kQ h3 ab h13.2;exact .D o3 (.I (λh14=>.U rfl) λ_=>.U rfl)
 ·cases h
def T3(x:aa):aj:=AT (x.D 0).I (x.D 1).I (x.D 2).I (x.D 3).bJ (.d 177 (x.D 4).U)
def AU(l:List aa)(r:b6):aU×List aa×List aj:=bif r.c then(.c,[.e 1 0],[aE l r.a,T3 r.b])else(.e (.C 377 (.u [.c .i64 r.d,.c .i64 r.e])),[.e 1 0],[aE l r.a,AT 0 0 0 [] .w])
def avi(h:r.c=false):(.e (.C 377 (.u [.c .i64 r.d,.c .i64 r.e])),[.e 1 0],[aE l r.a,AT 0 0 0 [] .w])=AU l r:=by unfold AU;rw[h];rfl
def avj(l r):py (AU l r)=true:=by unfold AU;cases r.c<;>rfl
def aeB(m:Nat)(l)(d q:Int)(hd:0<=d)(je:d<=100):∀(k:Nat)(x:aa)(a:Int),br l a=true->(l.length:Int)-a<k->(l.length:Int)-a<=m->
  bw an (LI m) Ar 1 2 [.e 0 0,.c .i64 d,.c .i64 q,.e 1 0,.e 2 0] [aE l a,AT 0 0 0 [] .w,T3 x] (AU l (oL l (cr l m).2 d q k x a))
 |0,x,a,h0,h1,h2=>by have:=dy.1 h0;omega
 |k+1,x,a,h0,h1,h2=>by
  have h3:=dy.1 h0;have hr:=avf l a;have e1:i64.wrap (a+1)=a+1:=(oK h0).1;have e2:i64.wrap ((e_ l a).2+1)=(e_ l a).2+1:=ep ab ab;have bg:=avc m l a d q (x.D 0).I (x.D 1).I (x.D 2).I (x.D 3).bJ (x.D 4).U;rw[e1,e2]at bg;refine eB.V aes 0 ae ae cv bg (.D h0 ?_);unfold oL;cases hz:((e_ l a).1==0)with
  |true=>exact .sJ rfl (.I rfl rfl)
  |false=>
   have cC:=aey hz;refine .D rfl ?_;refine .U (λ_=>.I rfl rfl) λ_=> ?_;have o1:=eK h0 cC;have t1:(fB l m d (a+1) &&decide ((0:Int)<=(e_ l a).2+1) &&decide ((e_ l a).2+1<=100))=true:=by rw[gP.2 ⟨o1,ab,hd,je⟩,aD (show 0<=(e_ l a).2+1 from ab),aD (show(e_ l a).2+1<=100 from ab)];rfl
   refine .D t1 (.U (λh12=> ?_) λh12=>.I (avi h12) (avj _ _));have h13:=((uH l m).2 d ((e_ l a).2+1) (a+1) ab ab ab).1 h12;have o3:=kQ h0 ab h13.2;refine .D o3 ?_;show eB _ _ _ _ _ _ (AU l (h_ (wF (b9 5 (e_ l a).1 0 [] [bB x,bB ((cr l m).2 d ((e_ l a).2+1) (a+1)).b]) ((cr l m).2 d ((e_ l a).2+1) (a+1)).a) λr=>oL l (cr l m).2 d q k r.b r.a));cases hk:lM (b9 5 (e_ l a).1 0 [] [bB x,bB ((cr l m).2 d ((e_ l a).2+1) (a+1)).b])with
   |true=>rw[show wF (b9 5 (e_ l a).1 0 [] [bB x,bB ((cr l m).2 d ((e_ l a).2+1) (a+1)).b]) ((cr l m).2 d ((e_ l a).2+1) (a+1)).a=fA (b9 5 (e_ l a).1 0 [] [bB x,bB ((cr l m).2 d ((e_ l a).2+1) (a+1)).b]) ((cr l m).2 d ((e_ l a).2+1) (a+1)).a by unfold wF;rw[hk];rfl];refine .D hk (.mR ?_);exact aeB m l d q hd je k (b9 5 (e_ l a).1 0 [] [bB x,bB ((cr l m).2 d ((e_ l a).2+1) (a+1)).b]) _ o3 ab ab
   |false=>rw[show wF (b9 5 (e_ l a).1 0 [] [bB x,bB ((cr l m).2 d ((e_ l a).2+1) (a+1)).b]) ((cr l m).2 d ((e_ l a).2+1) (a+1)).a=dM (((cr l m).2 d ((e_ l a).2+1) (a+1)).a-1) 8 ((cr l m).2 d ((e_ l a).2+1) (a+1)).a by unfold wF;rw[hk];rfl];exact .sJ hk (.I rfl rfl)
def T4(M:Nat):dk:=λm_ key vs os=>match vs,os with
 | [.e 0 0,.c .i64 d,.c .i64 q,.e 1 0,.e 2 0],[.a false [.d 80 l,.c .i64 a],.a false [.c .i64 0,.c .i64 0,.c .i64 0,.h [],.w],.a false [.c .i64 k,.c .i64 op,.c .i64 num,.h nm,.d 177 ar]]=>
  .I (fB l (M+1) d a &&Nat.beq m_ 1 &&Nat.beq key 2) (.c (oL l (cr l M).2 d q (l.length+1) (b9 k op num nm ar) a).c
   (.g (.c,[.e 1 0],[aE l (oL l (cr l M).2 d q (l.length+1) (b9 k op num nm ar) a).a,T3 (oL l (cr l M).2 d q (l.length+1) (b9 k op num nm ar) a).b]))
   (.g (.e (.C 377 (.u [.c .i64 (oL l (cr l M).2 d q (l.length+1) (b9 k op num nm ar) a).d,.c .i64 (oL l (cr l M).2 d q (l.length+1) (b9 k op num nm ar) a).e])),[.e 1 0],[aE l (oL l (cr l M).2 d q (l.length+1) (b9 k op num nm ar) a).a,AT 0 0 0 [] .w])))
 |_,_=>.d
def avk(M:Nat):cJ an (LI M) Ar (T4 M):=by
 intro m_ key vs os r h;unfold T4 at h;split at h
 ·rename_i d q l a k op num nm ar;obtain⟨h1,h2⟩:=aO h;simp only[au]at h1;obtain⟨⟨h3,hm⟩,hk⟩:=h1;obtain rfl:=aV hm;obtain rfl:=aV hk;obtain⟨h4,h5,h6,h7⟩:=gP.1 h3;have h8:=aeB M l d q h6 h7 (l.length+1) (b9 k op num nm ar) a h4 (by have:=dy.1 h4;omega) ab;unfold AU at h8;cases hb:(oL l (cr l M).2 d q (l.length+1) (b9 k op num nm ar) a).c<;>rw[hb]at h2 h8<;>cases h2<;>exact h8
 ·simp[af.D]at h
def avl(M l a d q):(aI (ay an (LI M) Ar (T4 M)) false f265 [.e 0 0,ah d,ah q] [aE l a]).D=((letI ai:=(cr l (M+1)).fst d a;letI ak:=oL l (cr l M).snd d q (l.length+1) (bB ai.b) ai.a;af.c (fB l (M+1) d a) (.c (ai.c) (.c (fB l (M+1) d ai.a &&Nat.beq 1 1 &&Nat.beq 2 2) (.c (ak.c) (al (.u [ah (ak.b.D 0).I,ah (ak.b.D 1).I,ah (ak.b.D 2).I,.h (ak.b.D 3).bJ,.d 177 (ak.b.D 4).U]) [aE l ak.a]) (dc (gl ak.d ak.e) [aE l ak.a])) .d) (dc (gl ai.d ai.e) [aE l ai.a])) .d):af aC).D:=ae
def avm(hO:aH 272 (yO (m+1)))(hB:aH 265 (uG m)):aH 265 (uG (m+1)):=yi aW c_ (aA hO (aA au8 (aA hB (aA TR aQ)))) aes rfl (avk m) λp u v h=>by
 unfold uG at h;split at h
 ·rename_i d q l a;obtain⟨h1,h2⟩:=aO h;rw[LC]at h2;cases h2;rw[au,au]at h1;obtain⟨h3,h4,h5,h6⟩:=gP.1 h1.1.1;have h7:=dy.1 h3;refine .V (avl m l a d q) (.D h1.1.1 ?_);show dO _ (wE l (h_ ((cr l (m+1)).1 d a) λr=>oL l (cr l m).2 d q (l.length+1) (bB r.b) r.a));refine .I (λh12=> ?_) λh12=>yN h12;have h13:=((uH l (m+1)).1 d a h7.1 h7.2.1 h4).1 h12;have o1:=kQ h3 ab h13.2;exact .D (by rw[gP.2 ⟨o1,ab,h5,h6⟩];rfl) (.kL (λh14=>LD h14) λh14=>yN h14)
 ·cases h
def T5:∀m:Nat,aH 272 (yO m)/\aH 265 (uG m)
 |0=>by
  refine⟨λargs ao out h=> ?_,λp q r h=> ?_⟩
  ·unfold yO at h;split at h
   ·obtain⟨h1,h2⟩:=aO h;obtain⟨h3,h4,_⟩:=gP.1 h1;have:=dy.1 h3;omega
   ·simp[af.D]at h
  ·unfold uG at h;split at h
   ·obtain⟨h1,h2⟩:=aO h;rw[au,au]at h1;obtain⟨h3,h4,_⟩:=gP.1 h1.1.1;have:=dy.1 h3;omega
   ·simp[af.D]at h
 |m+1=>by have ih:=T5 m;have hO:=avh (avg ih.1) ih.2;exact⟨hO,avm hO ih.2⟩
def avn:=aR 262 J8 ae
def avo:=aR 266 QR ae
def avp:=aR 244 QS ae
def avq:=aR 261 QT ae
def T6:=aR 243 wc ae
def T7:aq
 | [.M,.e 0 0,.e 1 0],[.a false [.c .i64 n],.a false [.c .i64 e]]=>.g (.a (.p false) [.a false [.c .i64 n],.a false [.c .i64 e]])
 | [.C 377 (.u [.c .i64 f,.c .i64 g]),.e 0 0,.e 1 0],[.a false [.c .i64 _],.a false [.c .i64 _]]=>.g (.a (.p true) [.a false [.c .i64 f],.a false [.c .i64 g]])
 |_,_=>.d
def avr(n e):(aI (ay an (aL []) J8 aK) false f262 [.M,.e 0 0,.e 1 0] [az [ah n],az [ah e]]).D=((af.g (.a (.p false) [az [ah n],az [ah e]]))).D:=ae
def avs(n e f g):(aI (ay an (aL []) J8 aK) false f262 [gl f g,.e 0 0,.e 1 0] [az [ah n],az [ah e]]).D=((af.g (.a (.p true) [az [ah f],az [ah g]]))).D:=ae
def aeC:aH 262 T7:=bI aQ avn λp q r h=>by
 unfold T7 at h;split at h
 ·exact(avr _ _).trans h
 ·exact(avs _ _ _ _).trans h
 ·cases h
def aeD:FuncId->aq:=aL [(262,T7)]
def avt:FuncId->Option aa->aq:=yh an aeD 266 QR
def avu:FuncId->aq:=aL [(265,uG 1000002),(263,Dx),(264,Dv)]
def avv(l a d):(qg (ay an avu QS aK) avt false f244 [.d 80 l,ah a,ah d] []).D=((letI ai:List aa:=[ah 0,ah 0,ah 0,.h [],.w];letI ak:af aC:=al (.q [.u ai,ah 0,ah 3]) [];letI aw:=(cr l 1000002).snd d (1:Int) a;af.c (!decide (a<0)) (.c (!decide (a>(↑l.length:Int))) (.c (decide (d<0)) ak (.c (fB l 1000002 d a &&decide ((0:Int)<=1) &&decide ((1:Int)<=100)) (.c (aw.c) (al (.q [bB aw.b,ah aw.a,ah 0]) []) (al (.q [.u ai,ah aw.d,ah aw.e]) [])) .d)) ak) ak):af aC).D:=ae
def fq(l:List aa):Bool:=decide (l.length<=1000000) &&l.all Dp
def uI(h:fq l=true)(h0:0<=a)(h1:a<=(l.length:Int)):br l a=true:=by unfold fq at h;rw[au,bC]at h;exact dy.2 ⟨h0,h1,h.1,h.2⟩
def nU(l:List aa)(a d:Int):b6:=bif !decide (a<0)then(bif !decide (a>(l.length:Int))then(bif decide (d<0)then dM 0 3 0 else(cr l 1000002).2 d 1 a)else dM 0 3 0)else dM 0 3 0
def GD(r:b6):aC:=bif r.c then .a (.q [bB r.b,.c .i64 r.a,.c .i64 0]) []else .a (.q [b9 0 0 0 [] [],.c .i64 r.d,.c .i64 r.e]) []
def T8(r:b6):af aC:=.c r.c (.g (.a (.q [bB r.b,.c .i64 r.a,.c .i64 0]) [])) (.g (.a (.q [b9 0 0 0 [] [],.c .i64 r.d,.c .i64 r.e]) []))
def avw(r):(T8 r).D=some (GD r):=by unfold T8 GD;cases r.c<;>rfl
def LK:dO (.g (.a (.q [.u [.c .i64 0,.c .i64 0,.c .i64 0,.h [],.w],.c .i64 f,.c .i64 e]) [])) (.a (.q [b9 0 0 0 [] [],.c .i64 f,.c .i64 e]) []):=
 .nL (.a _ (.U (.I (.V (.D _ (.D _ (.D _ (.D _ (.I (.D _) .U)))))) (.D _ (.D _ .U)))))
def T9:aq| [.d 80 l,.c .i64 a,.c .i64 d],[]=>.I (fq l &&decide (d<=100)) (T8 (nU l a d)) |_,_=>.d
def avx:aH 244 T9:=PT aW c_ (aA (T5 1000002).2 (aA Ly (aA Lw aQ))) (PR aW c_ (aA aeC aQ) avo rfl) avp rfl cv λp q r h=>by
 unfold T9 at h;split at h
 ·rename_i l a d;obtain⟨h1,h2⟩:=aO h;rw[avw]at h2;cases h2;rw[au,bC]at h1;refine .V (avv l a d) (.I (λh3=> ?_) λ_=>LK);refine .I (λh4=> ?_) λ_=>LK;refine .I (λh5=>LK) λh5=> ?_;have g3:=eS (nJ h3);have g4:=eS (nJ h4);have g5:=eS h5;have o1:=uI h1.1 (show 0<=a from ab) ab;have g6:=dy.1 o1;refine .D (by rw[gP.2 ⟨o1,ab,ab,h1.2⟩];rfl) (.kL (λh6=> ?_) λh6=> ?_)
  ·exact .U (by unfold GD;rw[h6];rfl)
  ·have:GD ((cr l 1000002).2 d 1 a)=.a (.q [b9 0 0 0 [] [],.c .i64 ((cr l 1000002).2 d 1 a).d,.c .i64 ((cr l 1000002).2 d 1 a).e]) []:=by unfold GD;rw[h6];rfl
   rw[this];exact LK
 ·cases h
def yP(l:List aa)(d:Int):Nat->List aa->Int->b6
 |0,_,a=>dM 0 7 a
 |k+1,x,a=>h_ ((cr l 1000002).2 d 1 a) λr=>bif bG l r.a 4 [41]then fA (.d 177 (x++ [bB r.b])) (r.a+1)else bif bG l r.a 4 [44]then yP l d k (x++ [bB r.b]) (r.a+1)else dM r.a 7 r.a
def nV(l:List aa)(a d:Int):b6:=bif !decide (a<0)then(bif !decide (a>(l.length:Int))then(bif decide (d<0)then dM 0 3 0 else
  bif bG l a 4 [40]then(bif bG l (a+1) 4 [41]then fA (.d 177 []) (a+1+1)else yP l d (l.length+1) [] (a+1))else dM a 7 a)else dM 0 3 0)else dM 0 3 0
def T_(r:b6):af aC:=.c r.c (.g (.a (.q [.d 177 r.b.U,.c .i64 r.a,.c .i64 0]) [])) (.g (.a (.q [.d 177 [],.c .i64 r.d,.c .i64 r.e]) []))
def Ua:aq| [.d 80 l,.c .i64 a,.c .i64 d],[]=>.I (fq l &&decide (d<=100)) (T_ (nV l a d)) |_,_=>.d
def kR(l:List aa)(d:Int):Nat->List aa->Int->b6×List aa
 |0,x,a=>(dM 0 7 a,x)
 |k+1,x,a=>bif ((cr l 1000002).2 d 1 a).c then
   (bif bG l ((cr l 1000002).2 d 1 a).a 4 [41]then(fA (.d 177 (x++ [bB ((cr l 1000002).2 d 1 a).b])) (((cr l 1000002).2 d 1 a).a+1),x++ [bB ((cr l 1000002).2 d 1 a).b])
   else bif bG l ((cr l 1000002).2 d 1 a).a 4 [44]then kR l d k (x++ [bB ((cr l 1000002).2 d 1 a).b]) (((cr l 1000002).2 d 1 a).a+1)
   else(dM ((cr l 1000002).2 d 1 a).a 7 ((cr l 1000002).2 d 1 a).a,x++ [bB ((cr l 1000002).2 d 1 a).b]))
  else((cr l 1000002).2 d 1 a,x)
def aeE(l)(d:Int):∀(k:Nat)(x:List aa)(a:Int),(kR l d k x a).1=yP l d k x a
 |0,x,a=>rfl
 |k+1,x,a=>by
  unfold kR yP h_;cases((cr l 1000002).2 d 1 a).c with
  |false=>rfl
  |true=>
   show(bif bG l ((cr l 1000002).2 d 1 a).a 4 [41]then _ else _:b6×List aa).1=(bif bG l ((cr l 1000002).2 d 1 a).a 4 [41]then _ else _);cases bG l ((cr l 1000002).2 d 1 a).a 4 [41]with
   |true=>rfl
   |false=>
    show(bif bG l ((cr l 1000002).2 d 1 a).a 4 [44]then _ else _:b6×List aa).1=(bif bG l ((cr l 1000002).2 d 1 a).a 4 [44]then _ else _);cases bG l ((cr l 1000002).2 d 1 a).a 4 [44]with
    |true=>exact aeE l d k _ _
    |false=>rfl
def aeF(l)(d:Int):∀(k:Nat)(x:List aa)(a:Int),(yP l d k x a).c=true->(yP l d k x a).b.U=(kR l d k x a).2
 |0,x,a,h=>by cases h
 |k+1,x,a,h=>by
  unfold yP h_ at h⊢;unfold kR;cases ho:((cr l 1000002).2 d 1 a).c with
  |false=>rw[ho]at h;have h:((cr l 1000002).2 d 1 a).c=true:=h;rw[ho]at h;cases h
  |true=>
   rw[ho]at h;simp only[cond_true]at h⊢;cases h1:bG l ((cr l 1000002).2 d 1 a).a 4 [41]with
   |true=>rfl
   |false=>
    rw[h1]at h;simp only[ve]at h⊢;cases h2:bG l ((cr l 1000002).2 d 1 a).a 4 [44]with
    |true=>rw[h2]at h;exact aeF l d k _ _ h
    |false=>rw[h2]at h;cases h
def GF:FuncId->aq:=aL [(265,uG 1000002),(263,Dx),(264,Dv)]
def cu(n:Int):aj:=.a false [.c .i64 n]
def avy(l a d nx e):(cB (ay an GF wc aK) 3 8 (cq wc 0) [ah d,.e 0 0,.e 1 0,.e 2 0,.e 3 0] [az [.w],cu nx,cu e,aE l a]).D=((letI ai:=fB l 1000002 d a &&decide ((0:Int)<=1) &&decide ((1:Int)<=100);letI ak:=(cr l 1000002).snd d (1:Int) a;letI aw:List aa:=[.e 0 0,.e 1 0,.e 2 0];af.c ai (.c (ak.c) (.c ai (.c (ak.c) (.c (br l ak.a) (.c (bG l ak.a (4:Int) [41]) (.g ((.c,aw,[az [.y 177 3 0 1],cu (ak.a+1),cu 0,.b false 0 177 [bB ak.b]]))) (.c (br l ak.a) (.c (bG l ak.a (4:Int) [44]) (.g ((.b,[ah d,.e 0 0,.e 1 0,.e 2 0,.e 3 0],[az [.y 177 4 0 1],cu nx,cu e,aE l (ak.a+1),.b false 0 177 [bB ak.b]]))) (.g ((.e (gl ak.a 7),aw,[az [.y 177 3 0 1],cu nx,cu e,.b false 0 177 [bB ak.b]])))) .d)) .d) .d) .d) (.g ((.e (gl ak.d ak.e),aw,[az [.w],cu nx,cu e])))) .d):af (aU×List aa×List aj)).D:=ae
def avz(l x)(n:Nat)(a d nx e:Int):(cB (ay an GF wc aK) 3 8 (cq wc 0) [ah d,.e 0 0,.e 1 0,.e 2 0,.e 3 0] [az [.y 177 4 0 n],cu nx,cu e,aE l a,.b false 0 177 x]).D=((letI ai:=fB l 1000002 d a &&decide ((0:Int)<=1) &&decide ((1:Int)<=100);letI ak:=(cr l 1000002).snd d (1:Int) a;letI aw:=x++ [b9 0 0 0 [] []];letI aS:List aa:=[.e 0 0,.e 1 0,.e 2 0];letI bx:=aw.set (↑n:Int).toNat (bB ak.b);af.c ai (.c (ak.c) (.c ai (.c (ak.c) (.c (decide (x.length+1<=4294967296)) (.c (Nat.beq 177 177 &&true &&decide (0<=(↑n:Int)) &&decide ((↑n:Int)<(↑aw.length:Int))) (.c (br l ak.a) (.c (bG l ak.a (4:Int) [41]) (.g ((.c,aS,[az [.y 177 3 0 aw.length],cu (ak.a+1),cu 0,.b false 0 177 bx]))) (.c (br l ak.a) (.c (bG l ak.a (4:Int) [44]) (.g ((.b,[ah d,.e 0 0,.e 1 0,.e 2 0,.e 3 0],[az [.y 177 4 0 aw.length],cu nx,cu e,aE l (ak.a+1),.b false 0 177 bx]))) (.g ((.e (gl ak.a 7),aS,[az [.y 177 3 0 aw.length],cu nx,cu e,.b false 0 177 bx])))) .d)) .d) .d) .d) .d) .d) (.g ((.e (gl ak.d ak.e),aS,[az [.y 177 3 0 n],cu nx,cu e,.b false 0 177 x])))) .d):af (aU×List aa×List aj)).D:=ae
def AV(nx e:Int)(q:b6×List aa):aU×List aa×List aj:=bif q.1.c then(.c,[.e 0 0,.e 1 0,.e 2 0],[.a false [.y 177 3 0 q.2.length],cu q.1.a,cu 0,.b false 0 177 q.2])else
 (.e (.C 377 (.u [.c .i64 q.1.d,.c .i64 q.1.e])),[.e 0 0,.e 1 0,.e 2 0],[.a false [.y 177 3 0 q.2.length],cu nx,cu e,.b false 0 177 q.2])
def avA(nx e:Int)(q:b6×List aa):py (AV nx e q)=true:=by unfold AV;cases q.1.c<;>rfl
def avB{nx:Int}{q:b6×List aa}(h:q.1.c=false):(.e (.C 377 (.u [.c .i64 q.1.d,.c .i64 q.1.e])),[.e 0 0,.e 1 0,.e 2 0],[.a false [.y 177 3 0 q.2.length],cu nx,cu e,.b false 0 177 q.2])=AV nx e q:=by unfold AV;rw[h];rfl
def avC(x:List aa)(z e:aa):(x++ [z]).set ((x.length:Nat):Int).toNat e=x++ [e]:=by rw[dE,No _ _ (bj _),ni];rfl
def avD(x:List aa)(z e:aa):(x++ [z]).length=(x++ [e]).length:=aB
def aeG(l)(d nx e:Int)(hd:0<=d)(je:d<=100):∀(k:Nat)(x:List aa)(a:Int),br l a=true->(l.length:Int)-a<k->(x.length:Int)<=a->
  bw an GF wc 3 8 [.c .i64 d,.e 0 0,.e 1 0,.e 2 0,.e 3 0] [.a false [.y 177 4 0 x.length],cu nx,cu e,aE l a,.b false 0 177 x] (AV nx e (kR l d k x a))
 |0,x,a,h0,h1,h2=>by have:=dy.1 h0;omega
 |k+1,x,a,h0,h1,h2=>by
  have h3:=dy.1 h0;have t1:(fB l 1000002 d a &&decide ((0:Int)<=1) &&decide ((1:Int)<=100))=true:=by rw[gP.2 ⟨h0,ab,hd,je⟩];rfl
  have bg:=avz l x x.length a d nx e;rw[avC,avD x _ (bB ((cr l 1000002).2 d 1 a).b)]at bg;refine eB.V T6 0 ae ae cv bg (.D t1 ?_);unfold kR;refine .U (λh4=>.D t1 (.D h4 (.D (aD (show x.length+1<=4294967296 from ab)) (.D ?_ ?_)))) λh4=>.I (avB (q:=(_,x)) h4) (avA _ _ (_,x))
  ·rw[aD (show(0:Int)<=(x.length:Int)from ab),aD (show(x.length:Int)<((x++ [bB ((cr l 1000002).2 d 1 a).b]).length:Int)by simp;omega)];rfl
  ·have h5:=((uH l 1000002).2 d 1 a h3.1 h3.2.1 ab).1 h4;have o1:=kQ h0 ab h5.2;refine .D o1 (.U (λ_=>.I rfl rfl) λ_=>.D o1 (.U (λh6=>.mR ?_) λ_=>.I rfl rfl));have h7:=cU h6;exact aeG l d nx e hd je k (x++ [bB ((cr l 1000002).2 d 1 a).b]) _ (eK o1 h7) ab (by simp;omega)
def Ub:dk:=λm_ key vs os=>match vs,os with
 | [.c .i64 d,.e 0 0,.e 1 0,.e 2 0,.e 3 0],[.a false [.w],.a false [.c .i64 nx],.a false [.c .i64 e],.a false [.d 80 l,.c .i64 a]]=>
  .I (br l a &&decide (0<=d) &&decide (d<=100) &&Nat.beq m_ 3 &&Nat.beq key 8) (.c ((cr l 1000002).2 d 1 a).c
   (.c (kR l d (l.length+1) [] a).1.c
    (.g (.c,[.e 0 0,.e 1 0,.e 2 0],[.a false [.y 177 3 0 (kR l d (l.length+1) [] a).2.length],cu (kR l d (l.length+1) [] a).1.a,cu 0,.b false 0 177 (kR l d (l.length+1) [] a).2]))
    (.g (.e (.C 377 (.u [.c .i64 (kR l d (l.length+1) [] a).1.d,.c .i64 (kR l d (l.length+1) [] a).1.e])),[.e 0 0,.e 1 0,.e 2 0],[.a false [.y 177 3 0 (kR l d (l.length+1) [] a).2.length],cu nx,cu e,.b false 0 177 (kR l d (l.length+1) [] a).2])))
   (.g (.e (.C 377 (.u [.c .i64 ((cr l 1000002).2 d 1 a).d,.c .i64 ((cr l 1000002).2 d 1 a).e])),[.e 0 0,.e 1 0,.e 2 0],[.a false [.w],cu nx,cu e])))
 |_,_=>.d
def avE:cJ an GF wc Ub:=by
 intro m_ key vs os r h;unfold Ub at h;split at h
 ·rename_i d nx e l a;obtain⟨h1,h2⟩:=aO h;simp only[au,bC,aNx]at h1;obtain⟨⟨⟨⟨h0,hd⟩,je⟩,rfl⟩,rfl⟩:=h1;have h3:=dy.1 h0;have t1:(fB l 1000002 d a &&decide ((0:Int)<=1) &&decide ((1:Int)<=100))=true:=by rw[gP.2 ⟨h0,ab,hd,je⟩];rfl
  refine eB.V T6 0 ae ae cv (avy l a d nx e) (.D t1 ?_);cases h4:((cr l 1000002).2 d 1 a).c with
  |false=>rw[h4]at h2;cases h2;exact .sJ rfl (.I rfl rfl)
  |true=>
   rw[h4]at h2;have h9:r=AV nx e (kR l d (l.length+1) [] a):=by unfold AV;cases h5:(kR l d (l.length+1) [] a).1.c<;>rw[h5]at h2<;>cases h2<;>rfl
   rw[h9];have h5:=((uH l 1000002).2 d 1 a h3.1 h3.2.1 ab).1 h4;have o1:=kQ h0 ab h5.2;refine .D rfl (.D t1 (.D rfl (.D o1 ?_)));unfold kR;rw[h4];refine .U (λ_=>.I rfl rfl) λ_=>.D o1 (.U (λh6=>.mR ?_) λ_=>.I rfl rfl);have h7:=cU h6;exact aeG l d nx e hd je l.length [bB ((cr l 1000002).2 d 1 a).b] _ (eK o1 h7) ab (by show(1:Int)<=_;omega)
 ·simp[af.D]at h
def avF:FuncId->Option aa->aq:=yh an aeD 261 QT
def avG(l a d):(qg (ay an GF wc Ub) avF false f243 [.d 80 l,ah a,ah d] []).D=((letI ai:af aC:=al (.q [.d 0 [],ah 0,ah 3]) [];letI ak:=(cr l 1000002).snd d (1:Int) (a+1);letI aw:=kR l d (l.length+1) [] (a+1);af.c (!decide (a<0)) (.c (!decide (a>(↑l.length:Int))) (.c (decide (d<0)) ai (.c (br l a) (.c (bG l a 4 [40]) (.c (br l (a+1)) (.c (bG l (a+1) 4 [41]) (al (.q [.d 0 [],ah (a+1+1),ah 0]) []) (.c (br l (a+1) &&decide (0<=d) &&decide (d<=100) &&Nat.beq 3 3 &&Nat.beq 8 8) (.c (ak.c) (.c (aw.fst.c) (al (.q [.d 177 aw.snd,ah aw.fst.a,ah 0]) []) (al (.q [.d 0 [],ah aw.fst.d,ah aw.fst.e]) [])) (al (.q [.d 0 [],ah ak.d,ah ak.e]) [])) .d)) .d) (al (.q [.d 0 [],ah a,ah 7]) [])) .d)) ai) ai):af aC).D:=ae
def Wkn.aeH(t t':TypeId):nK (.d t []) (.d t' []):=λ_ _ _ _ _ h=>by obtain⟨a,c,h1,h2,_⟩:=h;exact⟨a,c,h1,h2,.inl rfl⟩
def GG(r:b6):aC:=bif r.c then .a (.q [.d 177 r.b.U,.c .i64 r.a,.c .i64 0]) []else .a (.q [.d 177 [],.c .i64 r.d,.c .i64 r.e]) []
def avH(r):(T_ r).D=some (GG r):=by unfold T_ GG;cases r.c<;>rfl
def DD:dO (.g (.a (.q [.d t [],.c .i64 f,.c .i64 e]) [])) (.a (.q [.d 177 [],.c .i64 f,.c .i64 e]) []):=.nL (.a _ (.U (.I (Wkn.aeH _ _) (.D _ (.D _ .U)))))
def aeI(h:r.c=false):dO (.g (.a (.q [.d t [],.c .i64 r.d,.c .i64 r.e]) [])) (GG r):=by unfold GG;rw[h];exact DD
def avI:aH 243 Ua:=PT aW c_ (aA (T5 1000002).2 (aA Ly (aA Lw aQ))) (PR aW c_ (aA aeC aQ) avq rfl) T6 rfl avE λp q r h=>by
 unfold Ua at h;split at h
 ·rename_i l a d;obtain⟨h1,h2⟩:=aO h;rw[avH]at h2;cases h2;rw[au,bC]at h1;refine .V (avG l a d) (.I (λh3=> ?_) λ_=>DD);refine .I (λh4=> ?_) λ_=>DD;refine .I (λ_=>DD) λh5=> ?_;have g3:=eS (nJ h3);have g4:=eS (nJ h4);have g5:=eS h5;have o1:=uI h1.1 (show 0<=a from ab) ab;refine .D o1 (.I (λh6=> ?_) λ_=>DD);have g6:=cU h6;have o2:=eK o1 g6;refine .D o2 (.I (λ_=>DD) λ_=>.D ?_ ?_)
  ·rw[o2,aD (show 0<=d from ab),aD h1.2];rfl
  ·have e1:=aeE l d (l.length+1) [] (a+1);rw[<-e1];refine .kL (λh7=>.kL (λh8=> ?_) λh8=>aeI h8) λh7=> ?_
   ·refine .U ?_;have h9:=aeF l d (l.length+1) [] (a+1) (by rw[<-e1];exact h8);rw[<-e1]at h9;unfold GG;rw[h8,h9];rfl
   ·have e2:(kR l d (l.length+1) [] (a+1)).1=(cr l 1000002).2 d 1 (a+1):=by unfold kR;rw[h7];rfl
    rw[e2];exact aeI h7
 ·cases h
def aeJ{l}(d:Int):∀(k:Nat)(x:List aa)(a0 a:Int),0<=a0->a0<a->a<=(l.length:Int)->(l.length:Int)-a<k->l.length<=1000000->fp l a0 (yP l d k x a)
 |0,x,a0,a,h0,h1,h2,h3,h4=>ab
 |k+1,x,a0,a,h0,h1,h2,h3,h4=>by refine ki ((uH l 1000002).2 d 1 a ab h2 ab) λh6 h7=> ?_;refine cZ (λh8=>jn ab (by have:=cU h8;omega)) λ_=> ?_;refine cZ (λh8=> ?_) λ_=>eQ ab h7 av;have:=cU h8;exact aeJ d k _ a0 _ h0 ab ab ab h4
def aeK(h:fq l=true)(h0:0<=a)(h1:a<=(l.length:Int)):fp l a (nU l a d):=by have h2:=dy.1 (uI h h0 h1);refine cZ (λ_=>cZ (λ_=>cZ (λ_=>eQ ab ab av) λ_=>(uH l 1000002).2 d 1 a h0 h1 ab) λ_=>eQ ab ab av) λ_=>eQ ab ab av
def aeL(h:fq l=true)(h0:0<=a)(h1:a<=(l.length:Int)):fp l a (nV l a d):=by have h2:=dy.1 (uI h h0 h1);refine cZ (λ_=>cZ (λ_=>cZ (λ_=>eQ ab ab av) λ_=>cZ (λh3=> ?_) λ_=>eQ h0 h1 av) λ_=>eQ ab ab av) λ_=>eQ ab ab av;have:=cU h3;refine cZ (λh4=>jn ab (by have:=cU h4;omega)) λ_=>aeJ d _ _ a _ h0 ab ab ab h2.2.2.1
def avJ:=aR 117 J9 ae
def avK:=aR 119 QU ae
def avL:=aR 120 QV ae
def avM:=aR 122 QW ae
def avN:=aR 121 QX ae
def avO:=aR 209 QY ae
def avP:=aR 168 QZ ae
def avQ:=aR 208 Q0 ae
def avR:=aR 207 Q1 ae
def avS(t):(aI (ay an (aL []) J9 (cG an (aL []) J9 8 8).d) false f117 [.h t] []).D=((letI ai:=i64.wrap ((0:Int)+1)+1;af.c ([]==t) (al (ah 0) []) (.c ([105,110,116]==t) (al (ah (i64.wrap ((0:Int)+1))) []) (.c ([98,111,111,108]==t) (al (ah (i64.wrap ai)) []) (.c ([97,114,114,97,121]==t) (al (ah (i64.wrap (i64.wrap ai+1))) []) (al (ah 0) []))))):af aC).D:=ae
def avT(l a d k t):(aI (ay an (aL []) QU aK) false f119 [.e 0 0,ah d,ah k,.h t] [aE l a]).D=((letI ai:=decide (0<=i64.wrap (a+d)) &&decide (i64.wrap (a+d)<(↑l.length:Int));letI ak:=l.getD (i64.wrap (a+d)).toNat .m;letI aw:af aC:=al (.p false) [aE l a];af.c (decide (i64.wrap (a+d)<(↑l.length:Int))) (.c ai (.c ((ak.D 0).I==k) (.c ai (al (.p ((ak.D 1).bJ==t)) [aE l a]) .d) aw) .d) aw):af aC).D:=ae
def avU(f e):(aI (ay an (aL []) QV aK) false f120 [ah f,ah e] []).D=((af.c (e !=0) (dc (.C 195 (.u [ah f,ah e])) []) (al (.q []) []))).D:=ae
def avV:FuncId->aq:=aL [(63,wv)]
def avW(l a d):(aI (ay an avV QY aK) false f209 [.e 0 0,ah d] [aE l a]).D=((letI ai:=decide (0<=i64.wrap (a+d)) &&decide (i64.wrap (a+d)<(↑l.length:Int));letI ak:=l.getD (i64.wrap (a+d)).toNat .m;letI aw:af aC:=al (.p false) [aE l a];af.c (decide (i64.wrap (a+d)<(↑l.length:Int))) (.c ai (.c ((ak.D 0).I==1) (.c ai (al (.p (jX (ak.D 1).bJ)) [aE l a]) .d) aw) .d) aw):af aC).D:=ae
def mV(t:List UInt8):Int:=bif []==t then 0 else bif [105,110,116]==t then 1 else bif [98,111,111,108]==t then 2 else bif [97,114,114,97,121]==t then 3 else 0
def LL:aq| [.h t],[]=>.g (.a (.c .i64 (mV t)) []) |_,_=>.d
def ia(n:Int):aC:=.a (.c .i64 n) []
def Uc:aH 117 LL:=dN aW c_ aQ avJ rfl (sH 8) λp q r h=>by
 unfold LL at h;split at h
 ·rename_i t;refine(avS t).trans (bS ?_ h);show _=some (ia (mV t));exact bK (λ_=>rfl) λ_=>bK (λ_=>rfl) λ_=>bK (λ_=>rfl) λ_=>bK (λ_=>rfl) λ_=>rfl
 ·cases h
def aeM(h:br l a=true)(h0:0<=d)(h1:d<=1):i64.wrap (a+d)=a+d:=by have:=dy.1 h;exact ep ab ab
def AW:aq| [.e 0 0,.c .i64 d,.c .i64 k,.h t],[.a false [.d 80 l,.c .i64 a]]=>.I (br l a &&decide (0<=d) &&decide (d<=1)) (.g (.a (.p (bG l (a+d) k t)) [aE l a])) |_,_=>.d
def DE:aH 119 AW:=bI aQ avK λp q r h=>by
 unfold AW at h;split at h
 ·rename_i d k t l a;obtain⟨h1,h2⟩:=aO h;rw[au,au,bC,bC]at h1;have h3:=(dy.1 h1.1.1).1;have h3':0<=a+d:=ab;refine(avT l a d k t).trans (bS ?_ h2);rw[aeM h1.1.1 h1.1.2 h1.2];unfold bG;refine eu (λh4=> ?_) (λh4=>by rw[h4];rfl);refine aZ (Gz h3' h4) ?_;rw[h4];refine eu (λh5=> ?_) (λh5=>by rw[show(gk l (a+d)==k)=false from h5];rfl);rw[show(gk l (a+d)==k)=true from h5];exact aZ (by rw[aD h3'];rfl) rfl
 ·cases h
def yQ:aq| [.c .i64 f,.c .i64 e],[]=>.c (e !=0) (.g (.b (.C 195 (.u [.c .i64 f,.c .i64 e])) [])) (.g (.a (.q []) [])) |_,_=>.d
def DF:aH 120 yQ:=bI aQ avL λp q r h=>by
 unfold yQ at h;split at h
 ·exact(avU _ _).trans h
 ·cases h
def avX:FuncId->aq:=aL [(119,AW)]
def avY(l a t):(aI (ay an avX QW aK) false f122 [.e 0 0,.h t] [aE l a]).D=((af.c (br l a &&decide ((0:Int)<=0) &&decide ((0:Int)<=1)) (.c (bG l (a+0) 4 t) (al (.p (bG l (a+0) 4 t)) [aE l (i64.wrap (a+1))]) (al (.p (bG l (a+0) 4 t)) [aE l a])) .d)).D:=ae
def GH:aq| [.e 0 0,.h t],[.a false [.d 80 l,.c .i64 a]]=>.I (br l a) (.c (bG l a 4 t) (.g (.a (.p true) [aE l (a+1)])) (.g (.a (.p false) [aE l a]))) |_,_=>.d
def uJ(h:br l a=true):(br l a &&decide ((0:Int)<=0) &&decide ((0:Int)<=1))=true:=by rw[h];rfl
def Ud:aH 122 GH:=bI (aA DE aQ) avM λp q r h=>by
 unfold GH at h;split at h
 ·rename_i t l a;obtain⟨h1,h2⟩:=aO h;refine(avY l a t).trans (bS ?_ h2);rw[(oK h1).1,show a+0=a from ED a];refine aZ (uJ h1) ?_;cases bG l a 4 t<;>rfl
 ·cases h
def GI:aq| [.e 0 0,.h t],[.a false [.d 80 l,.c .i64 a]]=>.I (br l a) (.c (bG l a 4 t) (.g (.a (.q []) [aE l (a+1)])) (.g (.b (.C 195 (.u [.c .i64 a,.c .i64 7])) [aE l a]))) |_,_=>.d
def avZ:FuncId->aq:=aL [(122,GH),(120,yQ)]
def av0(l a t):(aI (ay an avZ QX aK) false f121 [.e 0 0,.h t] [aE l a]).D=((af.c (br l a) (.c (bG l a 4 t) (al (.q []) [aE l (a+1)]) (dc (.C 195 (.u [ah a,ah 7])) [aE l a])) .d)).D:=ae
def Ue:aH 121 GI:=bI (aA Ud (aA DF aQ)) avN λp q r h=>by
 unfold GI at h;split at h
 ·rename_i t l a;obtain⟨h1,h2⟩:=aO h;refine(av0 l a t).trans (bS ?_ h2);refine aZ h1 ?_;cases bG l a 4 t<;>rfl
 ·cases h
def oM(l:List aa)(a:Int):Bool:=decide (a<(l.length:Int)) &&gk l a==1 &&jX (da l a)
def LM:aq| [.e 0 0,.c .i64 d],[.a false [.d 80 l,.c .i64 a]]=>.I (br l a &&decide (0<=d) &&decide (d<=1)) (.g (.a (.p (oM l (a+d))) [aE l a])) |_,_=>.d
def aeN:aH 209 LM:=bI (aA yE aQ) avO λp q r h=>by
 unfold LM at h;split at h
 ·rename_i d l a;obtain⟨h1,h2⟩:=aO h;rw[au,au,bC,bC]at h1;have h3:=(dy.1 h1.1.1).1;have h3':0<=a+d:=ab;refine(avW l a d).trans (bS ?_ h2);rw[aeM h1.1.1 h1.1.2 h1.2];unfold oM;refine eu (λh4=> ?_) (λh4=>by rw[h4];rfl);refine aZ (Gz h3' h4) ?_;rw[h4];refine eu (λh5=> ?_) (λh5=>by rw[show(gk l (a+d)==1)=false from h5];rfl);rw[show(gk l (a+d)==1)=true from h5];exact aZ (by rw[aD h3'];rfl) rfl
 ·cases h
def yR(h:oM l a=true):a<(l.length:Int):=by unfold oM at h;rw[au,au,bC]at h;exact h.1.1
def LN:aq| [.e 0 0],[.a false [.d 80 l,.c .i64 a]]=>.I (br l a) (.c (oM l a) (.g (.a (.h (da l a)) [aE l (a+1)])) (.g (.b (.C 195 (.u [.c .i64 a,.c .i64 7])) [aE l a]))) |_,_=>.d
def av1:FuncId->aq:=aL [(209,LM),(120,yQ)]
def av2(l a):(aI (ay an av1 QZ aK) false f168 [.e 0 0] [aE l a]).D=((letI ai:=i64.wrap (a+1)-1;af.c (br l a &&decide ((0:Int)<=0) &&decide ((0:Int)<=1)) (.c (!oM l (a+0)) (dc (.C 195 (.u [ah a,ah 7])) [aE l a]) (.c (decide (0<=i64.wrap ai) &&decide (i64.wrap ai<(↑l.length:Int))) (al (.h ((l.getD (i64.wrap ai).toNat .m).D 1).bJ) [aE l (i64.wrap (a+1))]) .d)) .d):af aC).D:=ae
def av3:FuncId->aq:=aL [(244,T9),(120,yQ)]
def av4(l a):(aI (ay an av3 Q0 aK) false f208 [.e 0 0] [aE l a]).D=((af.c (fq l &&decide ((0:Int)<=100)) (.c ((nU l a 0).c) (al (bB (nU l a 0).b) [aE l (nU l a 0).a]) (.c ((nU l a 0).e !=0) (dc (.C 195 (.u [ah (nU l a 0).d,ah (nU l a 0).e])) [aE l a]) (al (b9 0 0 0 [] []) [aE l (nU l a 0).d]))) .d)).D:=ae
def av5:FuncId->aq:=aL [(243,Ua),(120,yQ)]
def av6(l a):(aI (ay an av5 Q1 aK) false f207 [.e 0 0] [aE l a]).D=((af.c (fq l &&decide ((0:Int)<=100)) (.c ((nV l a 0).c) (al (.d 177 (nV l a 0).b.U) [aE l (nV l a 0).a]) (.c ((nV l a 0).e !=0) (dc (.C 195 (.u [ah (nV l a 0).d,ah (nV l a 0).e])) [aE l a]) (al (.d 177 []) [aE l (nV l a 0).d]))) .d)).D:=ae
def aeO:aH 168 LN:=bI (aA aeN (aA DF aQ)) avP λp q r h=>by
 unfold LN at h;split at h
 ·rename_i l a;obtain⟨h1,h2⟩:=aO h;have h3:=(dy.1 h1)
  refine(av2 l a).trans (bS ?_ h2);have e1:i64.wrap (a+1-1)=a:=by rw[ep ab ab];omega
  rw[(oK h1).1,e1,show a+0=a from ED a];refine aZ (uJ h1) (eu (λh4=>by rw[nJ h4];rfl) λh4=> ?_);have h5:=yR (mQ h4);rw[mQ h4];exact aZ (by rw[aD h3.1,aD h5];rfl) rfl
 ·cases h
def ib(l:List aa)(a:Int):b6:=bif (nU l a 0).c then fA (nU l a 0).b (nU l a 0).a else dM (nU l a 0).d (nU l a 0).e a
def oN(l:List aa)(a:Int):b6:=bif (nV l a 0).c then fA (nV l a 0).b (nV l a 0).a else dM (nV l a 0).d (nV l a 0).e a
def LO:aq| [.e 0 0],[.a false [.d 80 l,.c .i64 a]]=>.I (br l a) (.c (ib l a).c (.g (.a (bB (ib l a).b) [aE l (ib l a).a])) (.g (.b (.C 195 (.u [.c .i64 (ib l a).d,.c .i64 (ib l a).e])) [aE l a]))) |_,_=>.d
def Uf:aq| [.e 0 0],[.a false [.d 80 l,.c .i64 a]]=>.I (br l a) (.c (oN l a).c (.g (.a (.d 177 (oN l a).b.U) [aE l (oN l a).a])) (.g (.b (.C 195 (.u [.c .i64 (oN l a).d,.c .i64 (oN l a).e])) [aE l a]))) |_,_=>.d
def uK(h:br l a=true):fq l=true:=by have:=dy.1 h;unfold fq;rw[aD this.2.2.1,this.2.2.2];rfl
def GJ(h:e≠0):(e !=0)=true:=by simpa using h
def Ug:aH 208 LO:=bI (aA avx (aA DF aQ)) avQ λp q r h=>by
 unfold LO at h;split at h
 ·rename_i l a;obtain⟨h1,h2⟩:=aO h;have h3:=(dy.1 h1)
  have h4:=aeK (d:=0) (uK h1) h3.1 h3.2.1;refine(av4 l a).trans (bS (aZ (by rw[uK h1];rfl) ?_) h2);unfold ib;cases h5:(nU l a 0).c with
  |true=>rfl
  |false=>have h6:=(h4.2 h5).2.2;exact kK rfl (aZ (GJ h6) rfl)
 ·cases h
def av7:aH 207 Uf:=bI (aA avI (aA DF aQ)) avR λp q r h=>by
 unfold Uf at h;split at h
 ·rename_i l a;obtain⟨h1,h2⟩:=aO h;have h3:=(dy.1 h1)
  have h4:=aeL (d:=0) (uK h1) h3.1 h3.2.1;refine(av6 l a).trans (bS (aZ (by rw[uK h1];rfl) ?_) h2);unfold oN;cases h5:(nV l a 0).c with
  |true=>rfl
  |false=>have h6:=(h4.2 h5).2.2;exact kK rfl (aZ (GJ h6) rfl)
 ·cases h
def AX(h:br l a=true):fp l a (ib l a):=by
 have h3:=(dy.1 h)
 have h4:=aeK (d:=0) (uK h) h3.1 h3.2.1;exact cZ (λh5=>jn (h4.1 h5).1 (h4.1 h5).2) λh5=>eQ (h4.2 h5).1 (h4.2 h5).2.1 (h4.2 h5).2.2
def av8(h:br l a=true):fp l a (oN l a):=by
 have h3:=(dy.1 h)
 have h4:=aeL (d:=0) (uK h) h3.1 h3.2.1;exact cZ (λh5=>jn (h4.1 h5).1 (h4.1 h5).2) λh5=>eQ (h4.2 h5).1 (h4.2 h5).2.1 (h4.2 h5).2.2
def av9:=aR 201 Q2 ae
def av_:=aR 202 Q3 ae
def av':=aR 203 Q4 ae
def awa:=aR 204 Q5 ae
def awb:=aR 205 Q6 ae
def awc:=aR 206 Q7 ae
def awd:=aR 167 Q8 ae
def awe:=aR 123 J_ ae
def aeP:=aR 88 As ae
def awf:=aR 166 Q9 ae
def DG:FuncId->aq:=aL [(168,LN),(208,LO),(207,Uf),(121,GI),(122,GH),(119,AW),(209,LM),(117,LL),(120,yQ)]
def GK:∀k,aH k (DG k):=aA aeO (aA Ug (aA av7 (aA Ue (aA Ud (aA DE (aA aeN (aA Uc (aA DF aQ))))))))
def awg(l a d):(aI (ay an DG Q2 aK) false f201 [.e 0 0,ah d] [aE l a]).D=((letI ai:=decide (0<=a+1) &&decide (a+1<(↑l.length:Int));letI ak:=l.getD (a+1).toNat .m;letI aw:af aC:=dc (.C 195 (.u [ah (a+1),ah 7])) [aE l (a+1)];letI aS:=i64.wrap (a+1+1);letI bx:=i64.wrap (a+1+1)+1;letI bX:=ib l bx;af.c (br l a) (.c (oM l a) (.c (decide (a+1<(↑l.length:Int))) (.c ai (.c ((ak.D 0).I==3) (.c ai (.c (mV (ak.D 1).bJ==0) aw (.c (br l aS) (.c (bG l aS 4 [61]) (.c (br l bx) (.c (bX.c) (.c (br l bX.a) (.c (bG l bX.a (4:Int) [59]) (al (.u [ah 1,ah 0,.h (da l a),ah (mV (ak.D 1).bJ),.h [],.d 177 [bB bX.b],.w,.w]) [aE l (bX.a+1)]) (dc (.C 195 (.u [ah bX.a,ah 7])) [aE l bX.a])) .d) (dc (.C 195 (.u [ah bX.d,ah bX.e])) [aE l bx])) .d) (.c (br l aS) (.c (bG l aS 4 [59]) (al (.u [ah 1,ah 0,.h (da l a),ah (mV (ak.D 1).bJ),.h [],.w,.w,.w]) [aE l bx]) (dc (.C 195 (.u [ah aS,ah 7])) [aE l aS])) .d)) .d)) .d) aw) .d) aw) (dc (.C 195 (.u [ah a,ah 7])) [aE l a])) .d):af aC).D:=ae
def awh(l a d):(aI (ay an DG Q3 aK) false f202 [.e 0 0,ah d] [aE l a]).D=((af.c (br l a) (.c (oM l a) (.c (br l (a+1)) (.c (bG l (a+1) 4 [59]) (al (.u [ah 5,ah 0,.h (da l a),ah 0,.h [],.w,.w,.w]) [aE l (a+1+1)]) (dc (.C 195 (.u [ah (a+1),ah 7])) [aE l (a+1)])) .d) (dc (.C 195 (.u [ah a,ah 7])) [aE l a])) .d)).D:=ae
def awi(l a d):(aI (ay an DG Q4 aK) false f203 [.e 0 0,ah d] [aE l a]).D=((letI ai:=ib l a;af.c (br l a) (.c (ai.c) (.c (br l ai.a) (.c (bG l ai.a (4:Int) [59]) (al (.u [ah 6,ah 0,.h [],ah 0,.h [],.d 177 [bB ai.b],.w,.w]) [aE l (ai.a+1)]) (dc (.C 195 (.u [ah ai.a,ah 7])) [aE l ai.a])) .d) (dc (.C 195 (.u [ah ai.d,ah ai.e])) [aE l a])) .d):af aC).D:=ae
def awj(l a d):(aI (ay an DG Q5 aK) false f204 [.e 0 0,ah d] [aE l a]).D=((letI ai:=ib l a;af.c (br l a) (.c (bG l a 4 [59]) (al (.u [ah 8,ah 0,.h [],ah 0,.h [],.w,.w,.w]) [aE l (a+1)]) (.c (br l a) (.c (ai.c) (.c (br l ai.a) (.c (bG l ai.a (4:Int) [59]) (al (.u [ah 8,ah 0,.h [],ah 0,.h [],.d 177 [bB ai.b],.w,.w]) [aE l (ai.a+1)]) (dc (.C 195 (.u [ah ai.a,ah 7])) [aE l ai.a])) .d) (dc (.C 195 (.u [ah ai.d,ah ai.e])) [aE l a])) .d)) .d):af aC).D:=ae
def yS(l:List aa)(r:b6):aC:=bif r.c then .a (dV r.b) [aE l r.a]else .b (.C 195 (.u [.c .i64 r.d,.c .i64 r.e])) [aE l r.a]
def DH(l:List aa)(r:b6):af aC:=.c r.c (.g (.a (dV r.b) [aE l r.a])) (.g (.b (.C 195 (.u [.c .i64 r.d,.c .i64 r.e])) [aE l r.a]))
def yT(l r):(DH l r).D=some (yS l r):=by unfold DH yS;cases r.c<;>rfl
def mW(h:r.c=false)(ha:r.a=a):dO (.g (.b (.C 195 (.u [.c .i64 r.d,.c .i64 r.e])) [aE l a])) (yS l r):=.U (by unfold yS;rw[h,ha];rfl)
def awk(h:r.c=true):dO (.g (.a (dV r.b) [aE l r.a])) (yS l r):=.U (by unfold yS;rw[h];rfl)
def nW{no ty:Int}{x y z}(hx:nK x (.d 177 ar))(hy:nK y (.d 97 bo))(hz:nK z (.d 97 el)):
  dO (.g (.a (.u [.c .i64 k,.c .i64 no,.h nm,.c .i64 ty,.h ca,x,y,z]) [aE l n])) (yS l (fA (dL k no nm ty ca ar bo el) n)):=.nL (.a _ (.V (.D _ (.D _ (.D _ (.D _ (.D _ (.I hx (.I hy (.I hz .U))))))))))
def uL(h:(ib l a).c=false):(ib l a).a=a:=by
 unfold ib at h⊢;cases h1:(nU l a 0).c with
 |true=>rw[h1]at h;cases h
 |false=>rfl
def aeQ(h:(oN l a).c=false):(oN l a).a=a:=by
 unfold oN at h⊢;cases h1:(nV l a 0).c with
 |true=>rw[h1]at h;cases h
 |false=>rfl
def AY(l:List aa)(v:aa)(a:Int):b6:=bif bG l a 4 [59]then fA v (a+1)else dM a 7 a
def GL(l:List aa)(a:Int):b6:=bif oM l a then(bif decide (a+1<(l.length:Int))then(bif gk l (a+1)==3 then(bif mV (da l (a+1))==0 then dM (a+1) 7 (a+1)else
 bif bG l (a+1+1) 4 [61]then h_ (ib l (a+1+1+1)) λr=>AY l (dL 1 0 (da l a) (mV (da l (a+1))) [] [bB r.b] [] []) r.a else AY l (dL 1 0 (da l a) (mV (da l (a+1))) [] [] [] []) (a+1+1))else dM (a+1) 7 (a+1))else dM (a+1) 7 (a+1))else dM a 7 a
def GM(l:List aa)(a:Int):b6:=bif oM l a then AY l (dL 5 0 (da l a) 0 [] [] [] []) (a+1)else dM a 7 a
def GN(l:List aa)(a:Int):b6:=h_ (ib l a) λr=>AY l (dL 6 0 [] 0 [] [bB r.b] [] []) r.a
def GO(l:List aa)(a:Int):b6:=bif bG l a 4 [59]then fA (dL 8 0 [] 0 [] [] [] []) (a+1)else h_ (ib l a) λr=>AY l (dL 8 0 [] 0 [] [bB r.b] [] []) r.a
def rB(F:List aa->Int->b6):aq| [.e 0 0,.c .i64 _],[.a false [.d 80 l,.c .i64 a]]=>.I (br l a) (DH l (F l a)) |_,_=>.d
def awl:aH 201 (rB GL):=pX GK av9 λp q r h=>by
 unfold rB at h;split at h
 ·rename_i d l a;obtain⟨h1,h2⟩:=aO h;rw[yT]at h2;cases h2;have h0:=dy.1 h1;refine .V (awg l a d) (.D h1 (.I (λh3=> ?_) λ_=>.U rfl));have o1:=eK h1 (yR h3);rw[(oK o1).1];refine .I (λh4=> ?_) λ_=>.U rfl;have g1:=dy.1 o1;refine .D (Gz g1.1 h4) (.I (λh5=> ?_) λ_=>.U rfl);refine .D (Gz g1.1 h4) (.I (λ_=>.U rfl) λh6=> ?_);have o2:=eK o1 (ff h4);refine .D o2 (.I (λh7=> ?_) λh7=> ?_)
  ·have o3:=eK o2 (cU h7);refine .D o3 (.I (λh8=> ?_) λh8=>mW h8 (uL h8));have g8:=(AX o3).1 h8;have g3:=dy.1 o3;exact .D (kQ h1 ab g8.2) (.I (λ_=>nW (.I _) (.D _) (.D _)) λ_=>.U rfl)
  ·exact .D o2 (.I (λ_=>nW (.D _) (.D _) (.D _)) λ_=>.U rfl)
 ·cases h
def awm:aH 202 (rB GM):=pX GK av_ λp q r h=>by
 unfold rB at h;split at h
 ·rename_i d l a;obtain⟨h1,h2⟩:=aO h;rw[yT]at h2;cases h2;refine .V (awh l a d) (.D h1 (.I (λh3=> ?_) λ_=>.U rfl));exact .D (eK h1 (yR h3)) (.I (λ_=>nW (.D _) (.D _) (.D _)) λ_=>.U rfl)
 ·cases h
def awn:aH 203 (rB GN):=pX GK av' λp q r h=>by
 unfold rB at h;split at h
 ·rename_i d l a;obtain⟨h1,h2⟩:=aO h;rw[yT]at h2;cases h2;have h0:=dy.1 h1;refine .V (awi l a d) (.D h1 (.I (λh8=> ?_) λh8=>mW h8 (uL h8)));have g8:=(AX h1).1 h8;exact .D (kQ h1 ab g8.2) (.I (λ_=>nW (.I _) (.D _) (.D _)) λ_=>.U rfl)
 ·cases h
def awo:aH 204 (rB GO):=pX GK awa λp q r h=>by
 unfold rB at h;split at h
 ·rename_i d l a;obtain⟨h1,h2⟩:=aO h;rw[yT]at h2;cases h2;have h0:=dy.1 h1;refine .V (awj l a d) (.D h1 (.I (λ_=>nW (.D _) (.D _) (.D _)) λ_=>.D h1 (.I (λh8=> ?_) λh8=>mW h8 (uL h8))));have g8:=(AX h1).1 h8;exact .D (kQ h1 ab g8.2) (.I (λ_=>nW (.I _) (.D _) (.D _)) λ_=>.U rfl)
 ·cases h
def GP(b:Int->Int->b6)(l:List aa)(d a:Int):b6:=h_ (ib l a) λr=>h_ (b (d+1) r.a) λq=>fA (dL 10 0 [] 0 [] [bB r.b] q.b.U []) q.a
def GQ(b:Int->Int->b6)(l:List aa)(d a:Int):b6:=h_ (ib l a) λr=>h_ (b (d+1) r.a) λq=>bif bG l q.a 3 [101,108,115,101]then h_ (b (d+1) (q.a+1)) λp=>fA (dL 9 0 [] 0 [] [bB r.b] q.b.U p.b.U) p.a else fA (dL 9 0 [] 0 [] [bB r.b] q.b.U []) q.a
def LP(l:List aa)(nm:List UInt8)(a:Int):b6:=
 bif bG l a 4 [40]then h_ (oN l a) λr=>fA (dL 7 0 [] 0 nm r.b.U [] []) r.a else
 bif bG l a 4 [91]then h_ (ib l (a+1)) λr=>bif bG l r.a 4 [93]then(bif bG l (r.a+1) 4 [61]then h_ (ib l (r.a+1+1)) λq=>fA (dL 3 0 nm 0 [] [bB r.b,bB q.b] [] []) q.a else dM (r.a+1) 7 (r.a+1))else dM r.a 7 r.a else
 bif bG l a 4 [61]then(bif bG l (a+1) 3 [110,101,119]then h_ (ib l (a+1+1)) λr=>fA (dL 4 0 nm 0 [] [bB r.b] [] []) r.a else
  bif oM l (a+1) &&bG l (a+1+1) 4 [40]then h_ (oN l (a+1+1)) λr=>fA (dL 7 0 nm 0 (da l (a+1)) r.b.U [] []) r.a else h_ (ib l (a+1)) λr=>fA (dL 2 0 nm 0 [] [bB r.b] [] []) r.a)else dM a 7 a
def sV(d:Int):Int:=bif decide ((20:Int)<d)then 20 else d
def lQ(b:Int->Int->b6)(l:List aa)(d a:Int):b6:=
 bif bG l a 3 [118,97,114]then GL l (a+1)else bif bG l a 3 [114,101,97,100]then GM l (a+1)else bif bG l a 3 [112,114,105,110,116]then GN l (a+1)else bif bG l a 3 [114,101,116,117,114,110]then GO l (a+1)else
 bif bG l a 3 [105,102]then GQ b l (sV d) (a+1)else bif bG l a 3 [119,104,105,108,101]then GP b l (sV d) (a+1)else
 bif oM l a then h_ (LP l (da l a) (a+1)) λr=>AY l (dV r.b) r.a else dM a 7 a
def mX(st:Int->b6)(l:List aa):Nat->List aa->Int->b6
 |0,_,a=>dM 0 7 a
 |k+1,x,a=>bif bG l a 4 [125]then fA (.d 97 x) (a+1)else bif (st a).c then mX st l k (x++ [dV (st a).b]) (st a).a else⟨false,.d 97 x,(st a).a,(st a).d,(st a).e⟩
def iF(l:List aa):Nat->Int->Int->b6
 |0=>λ_ a=>dM 0 7 a
 |m+1=>λd a=>bif bG l a 4 [123]then(bif decide (d>20)then dM a 8 a else mX (lQ (iF l m) l d) l (l.length+1) [] (a+1))else dM a 7 a
def AZ(l:List aa)(r:b6):aC:=bif r.c then .a (.d 97 r.b.U) [aE l r.a]else .b (.C 195 (.u [.c .i64 r.d,.c .i64 r.e])) [aE l r.a]
def Uh(l:List aa)(r:b6):af aC:=.c r.c (.g (.a (.d 97 r.b.U) [aE l r.a])) (.g (.b (.C 195 (.u [.c .i64 r.d,.c .i64 r.e])) [aE l r.a]))
def wH(m:Nat):aq| [.e 0 0,.c .i64 d],[.a false [.d 80 l,.c .i64 a]]=>.I (fB l m d a) (Uh l (iF l m d a)) |_,_=>.d
def LQ(m:Nat):aq| [.e 0 0,.c .i64 d],[.a false [.d 80 l,.c .i64 a]]=>.I (fB l m d a &&decide (d<=50)) (DH l (lQ (iF l m) l d a)) |_,_=>.d
def DI(F:(Int->Int->b6)->List aa->Int->Int->b6)(m:Nat):aq| [.e 0 0,.c .i64 d],[.a false [.d 80 l,.c .i64 a]]=>.I (fB l m d a &&decide (d<=50)) (DH l (F (iF l m) l d a)) |_,_=>.d
def Ui:aq| [.e 0 0,.h nm],[.a false [.d 80 l,.c .i64 a]]=>.I (br l a) (DH l (LP l nm a)) |_,_=>.d
def aeR(m:Nat):FuncId->aq:=aL [(208,LO),(119,AW),(88,wH m)]
def awp(m l a d):(aI (ay an (aeR m) Q6 aK) false f205 [.e 0 0,ah d] [aE l a]).D=((letI ai:=ib l a;letI ak:=i64.wrap (d+1);letI aw:=iF l m ak ai.a;letI aS:=i64.wrap (aw.a+1);letI bx:=iF l m ak aS;letI bX:List aj:=[az [.d 80 l,ah bx.a]];af.c (br l a) (.c (ai.c) (.c (fB l m ak ai.a) (.c (aw.c) (.c (br l aw.a &&decide ((0:Int)<=0) &&decide ((0:Int)<=1)) (.c (bG l (aw.a+0) (3:Int) [101,108,115,101]) (.c (fB l m ak aS) (.c (bx.c) (al (.u [ah 9,ah 0,.h [],ah 0,.h [],.d 177 [bB ai.b],.d 97 aw.b.U,.d 97 bx.b.U]) bX) (dc (.C 195 (.u [ah bx.d,ah bx.e])) bX)) .d) (al (.u [ah 9,ah 0,.h [],ah 0,.h [],.d 177 [bB ai.b],.d 97 aw.b.U,.w]) [aE l aw.a])) .d) (dc (.C 195 (.u [ah aw.d,ah aw.e])) [aE l aw.a])) .d) (dc (.C 195 (.u [ah ai.d,ah ai.e])) [aE l a])) .d):af aC).D:=ae
def awq(m l a d):(aI (ay an (aeR m) Q7 aK) false f206 [.e 0 0,ah d] [aE l a]).D=((letI ai:=ib l a;letI ak:=i64.wrap (d+1);letI aw:=iF l m ak ai.a;af.c (br l a) (.c (ai.c) (.c (fB l m ak ai.a) (.c (aw.c) (al (.u [ah 10,ah 0,.h [],ah 0,.h [],.d 177 [bB ai.b],.d 97 aw.b.U,.w]) [aE l aw.a]) (dc (.C 195 (.u [ah aw.d,ah aw.e])) [aE l aw.a])) .d) (dc (.C 195 (.u [ah ai.d,ah ai.e])) [aE l a])) .d):af aC).D:=ae
def awr(l nm a):(aI (ay an DG Q8 aK) false f167 [.e 0 0,.h nm] [aE l a]).D=((letI ai:=oN l a;letI ak:=br l (a+1);letI aw:=ib l (a+1);letI aS:=aw.a+1;letI bx:=aw.a+1+1;letI bX:=ib l bx;letI cI:af aC:=dc (.C 195 (.u [ah aw.d,ah aw.e])) [aE l (a+1)];letI fi:=br l (a+1) &&decide ((0:Int)<=0) &&decide ((0:Int)<=1);letI eA:=a+1+1;letI jC:=i64.wrap eA;letI iw:=ib l jC;letI gv:=oN l eA;letI ny:af aC:=.c ak (.c (aw.c) (al (.u [ah 2,ah 0,.h nm,ah 0,.h [],.d 177 [bB aw.b],.w,.w]) [aE l aw.a]) cI) .d;af.c (br l a &&decide ((0:Int)<=0) &&decide ((0:Int)<=1)) (.c (bG l (a+0) 4 [40]) (.c (br l a) (.c (ai.c) (al (.u [ah 7,ah 0,.h [],ah 0,.h nm,.d 177 ai.b.U,.w,.w]) [aE l ai.a]) (dc (.C 195 (.u [ah ai.d,ah ai.e])) [aE l a])) .d) (.c (br l a) (.c (bG l a 4 [91]) (.c ak (.c (aw.c) (.c (br l aw.a) (.c (bG l aw.a (4:Int) [93]) (.c (br l aS) (.c (bG l aS (4:Int) [61]) (.c (br l bx) (.c (bX.c) (.c (br l bx) (.c (bX.c) (al (.u [ah 3,ah 0,.h nm,ah 0,.h [],.d 177 [bB aw.b,bB bX.b],.w,.w]) [aE l bX.a]) .d) .d) (dc (.C 195 (.u [ah bX.d,ah bX.e])) [aE l bx])) .d) (dc (.C 195 (.u [ah aS,ah 7])) [aE l aS])) .d) (dc (.C 195 (.u [ah aw.a,ah 7])) [aE l aw.a])) .d) cI) .d) (.c (br l a) (.c (bG l a 4 [61]) (.c fi (.c (bG l (a+1+0) 3 [110,101,119]) (.c (br l jC) (.c (iw.c) (al (.u [ah 4,ah 0,.h nm,ah 0,.h [],.d 177 [bB iw.b],.w,.w]) [aE l iw.a]) (dc (.C 195 (.u [ah iw.d,ah iw.e])) [aE l jC])) .d) (.c fi (.c (oM l (a+1+0)) (.c (br l (a+1) &&decide ((0:Int)<=1) &&decide ((1:Int)<=1)) (.c (bG l eA 4 [40]) (.c ak (.c (oM l (a+1)) (.c (br l eA) (.c (gv.c) (al (.u [ah 7,ah 0,.h nm,ah 0,.h (da l (a+1)),.d 177 gv.b.U,.w,.w]) [aE l gv.a]) (dc (.C 195 (.u [ah gv.d,ah gv.e])) [aE l eA])) .d) (dc (.C 195 (.u [ah (a+1),ah 7])) [aE l (a+1)])) .d) ny) .d) ny) .d)) .d) (dc (.C 195 (.u [ah a,ah 7])) [aE l a])) .d)) .d)) .d):af aC).D:=ae
def wJ(hl:fq l=true)(h0:0<=a)(h1:a<=(l.length:Int)):fp l a (ib l a):=AX (uI hl h0 h1)
def aeS(hl:fq l=true)(h0:0<=a)(h1:a<=(l.length:Int)):fp l a (oN l a):=av8 (uI hl h0 h1)
def DJ{a0:Int}(h0:0<=a0)(h1:a0<=a)(h2:a<=(l.length:Int)):fp l a0 (AY l v a):=
 cZ (λh=>jn ab (by have:=cU h;omega)) λ_=>eQ ab h2 av
def aws(hl:fq l=true)(h0:0<=a)(h1:a<=(l.length:Int)):fp l a (GL l a):=by refine cZ (λh3=> ?_) λ_=>eQ h0 h1 av;have:=yR h3;refine cZ (λh4=> ?_) λ_=>eQ ab ab av;have:=ff h4;refine cZ (λ_=> ?_) λ_=>eQ ab ab av;refine cZ (λ_=>eQ ab ab av) λ_=> ?_;refine cZ (λh5=> ?_) λ_=>DJ h0 ab ab;have:=cU h5;exact ki (wJ hl ab ab) λh6 h7=>DJ h0 ab h7
def awt(h0:0<=a)(h1:a<=(l.length:Int)):fp l a (GM l a):=
 cZ (λh3=>DJ h0 ab (by have:=yR h3;omega)) λ_=>eQ h0 h1 av
def awu(hl:fq l=true)(h0:0<=a)(h1:a<=(l.length:Int)):fp l a (GN l a):=ki (wJ hl h0 h1) λh6 h7=>DJ h0 ab h7
def awv(hl:fq l=true)(h0:0<=a)(h1:a<=(l.length:Int)):fp l a (GO l a):=
 cZ (λh3=>jn ab (by have:=cU h3;omega)) λ_=>ki (wJ hl h0 h1) λh6 h7=>DJ h0 ab h7
def GR(l:List aa)(m:Nat)(b:Int->Int->b6):Prop:=∀d a,0<=a->a<=(l.length:Int)->(l.length:Int)-a<m->fp l a (b d a)
def aww(hl:fq l=true)(hb:GR l m b)(h0:0<=a)(h1:a<=(l.length:Int))(h2:(l.length:Int)-a<m):fp l a (GP b l d a):=
 ki (wJ hl h0 h1) λh6 h7=>ki (hb (d+1) _ ab h7 ab) λh8 h9=>jn ab h9
def awx(hl:fq l=true)(hb:GR l m b)(h0:0<=a)(h1:a<=(l.length:Int))(h2:(l.length:Int)-a<m):fp l a (GQ b l d a):=by refine ki (wJ hl h0 h1) λh6 h7=>ki (hb (d+1) _ ab h7 ab) λh8 h9=>cZ (λh10=> ?_) λ_=>jn ab h9;have:=cU h10;exact ki (hb (d+1) _ ab ab ab) λh11 h12=>jn ab h12
def aeT(hl:fq l=true)(h0:0<=a)(h1:a<=(l.length:Int)):fp l a (LP l nm a):=by
 refine cZ (λh3=>ki (aeS hl h0 h1) λh6 h7=>jn h6 h7) λ_=> ?_;refine cZ (λh3=> ?_) λ_=> ?_
 ·have:=cU h3;refine ki (wJ hl ab ab) λh6 h7=>cZ (λh8=> ?_) λ_=>eQ ab h7 av;have:=cU h8;refine cZ (λh9=> ?_) λ_=>eQ ab ab av;have:=cU h9;exact ki (wJ hl ab ab) λh10 h11=>jn ab h11
 refine cZ (λh3=> ?_) λ_=>eQ h0 h1 av;have:=cU h3;refine cZ (λh4=> ?_) λ_=> ?_
 ·have:=cU h4;exact ki (wJ hl ab ab) λh10 h11=>jn ab h11
 refine cZ (λh4=> ?_) λ_=>ki (wJ hl ab ab) λh10 h11=>jn ab h11;rw[au]at h4;have:=cU h4.2;exact ki (aeS hl ab ab) λh10 h11=>jn ab h11
def Uj(hl:fq l=true)(hb:GR l m b)(h0:0<=a)(h1:a<=(l.length:Int))(h2:(l.length:Int)-a<=m):fp l a (lQ b l d a):=by refine cZ (λh3=>wG (aws hl ab (by have:=cU h3;omega)) ab) λ_=> ?_;refine cZ (λh3=>wG (awt ab (by have:=cU h3;omega)) ab) λ_=> ?_;refine cZ (λh3=>wG (awu hl ab (by have:=cU h3;omega)) ab) λ_=> ?_;refine cZ (λh3=>wG (awv hl ab (by have:=cU h3;omega)) ab) λ_=> ?_;refine cZ (λh3=>wG (awx hl hb ab (by have:=cU h3;omega) ab) ab) λ_=> ?_;refine cZ (λh3=>wG (aww hl hb ab (by have:=cU h3;omega) ab) ab) λ_=> ?_;refine cZ (λh3=> ?_) λ_=>eQ h0 h1 av;have:=yR h3;exact ki (aeT hl ab ab) λh4 h5=>DJ h0 ab h5
def aeU{l}{m:Nat}{b:Int->Int->b6}{d:Int}(hl:fq l=true)(hb:GR l m b):∀(k:Nat)(x:List aa)(a0 a:Int),0<=a0->a0<a->a<=(l.length:Int)->(l.length:Int)-a<k->(l.length:Int)-a<=m->fp l a0 (mX (lQ b l d) l k x a)
 |0,x,a0,a,h0,h1,h2,h3,h4=>ab
 |k+1,x,a0,a,h0,h1,h2,h3,h4=>
  cZ (λh5=>jn ab (by have:=cU h5;omega)) λ_=>cZ (λh5=>by
   have h6:=(Uj (d:=d) hl hb ab h2 h4).1 h5;exact aeU hl hb k _ a0 _ h0 ab h6.2 ab ab) λh5=>by
   have h6:=(Uj (d:=d) hl hb ab h2 h4).2 h5;exact⟨λh=>(by cases h),λ_=>h6⟩
def LR{l}(hl:fq l=true):∀m:Nat,GR l m (iF l m)
 |0=>λd a h0 h1 h2=>ab
 |m+1=>λd a h0 h1 h2=>cZ (λh3=>cZ (λ_=>eQ h0 h1 av) λ_=>aeU hl (LR hl m) _ _ a _ h0 ab (by have:=cU h3;omega) ab ab) λ_=>eQ h0 h1 av
def aeV(h:fB l m d a=true):i64.wrap (d+1)=d+1:=by have:=gP.1 h;exact ep ab ab
def awy(hB:aH 88 (wH m)):aH 206 (DI GP m):=pX (aA Ug (aA DE (aA hB aQ))) awc λp q r h=>by
 unfold DI at h;split at h
 ·rename_i d l a;obtain⟨h1,h2⟩:=aO h;rw[yT]at h2;cases h2;rw[au,bC]at h1;obtain⟨h3,h4,h5,h6⟩:=gP.1 h1.1;have h0:=dy.1 h3;refine .V (awq m l a d) (.D h3 ?_);rw[aeV h1.1];refine .I (λh8=> ?_) λh8=>mW h8 (uL h8);have g8:=(AX h3).1 h8;have o1:=kQ h3 ab g8.2;exact .D (gP.2 ⟨o1,ab,ab,ab⟩) (.I (λ_=>nW (.I _) (.I _) (.D _)) λh9=>mW h9 rfl)
 ·cases h
def awz(hB:aH 88 (wH m)):aH 205 (DI GQ m):=pX (aA Ug (aA DE (aA hB aQ))) awb λp q r h=>by
 unfold DI at h;split at h
 ·rename_i d l a;obtain⟨h1,h2⟩:=aO h;rw[yT]at h2;cases h2;rw[au,bC]at h1;obtain⟨h3,h4,h5,h6⟩:=gP.1 h1.1;have h0:=dy.1 h3;refine .V (awp m l a d) (.D h3 ?_);rw[aeV h1.1];refine .I (λh8=> ?_) λh8=>mW h8 (uL h8);have g8:=(AX h3).1 h8;have o1:=kQ h3 ab g8.2;refine .D (gP.2 ⟨o1,ab,ab,ab⟩) (.I (λh9=> ?_) λh9=>mW h9 rfl);have g9:=(LR (uK h3) m (d+1) _ ab g8.2 ab).1 h9;have o2:=kQ h3 ab g9.2;rw[(oK o2).1,ED];refine .D (uJ o2) (.I (λh10=> ?_) λ_=>nW (.I _) (.I _) (.D _));have g10:=cU h10;exact .D (gP.2 ⟨eK o2 g10,ab,ab,ab⟩) (.I (λ_=>nW (.I _) (.I _) (.I _)) λh11=>mW h11 rfl)
 ·cases h
def awA:aH 167 Ui:=pX GK awd λp q r h=>by
 unfold Ui at h;split at h
 ·rename_i nm l a;obtain⟨h1,h2⟩:=aO h;rw[yT]at h2;cases h2;have g1:=dy.1 h1;have bg:=awr l nm a;simp only[ED]at bg;refine .V bg (.D (by rw[h1];rfl) (.I (λh3=>.D h1 (.I (λ_=>nW (.I _) (.D _) (.D _)) λh4=>mW h4 (aeQ h4))) λ_=>.D h1 (.I (λh5=> ?_) λ_=>.D h1 (.I (λh6=> ?_) λ_=>.U rfl))))
  ·have o1:=eK h1 (cU h5);refine .D o1 (.I (λh7=> ?_) λh7=>mW h7 (uL h7));have g7:=(AX o1).1 h7;have o2:=kQ h1 ab g7.2;refine .D o2 (.I (λh8=> ?_) λ_=>.U rfl);have o3:=eK o2 (cU h8);refine .D o3 (.I (λh9=> ?_) λ_=>.U rfl);have o4:=eK o3 (cU h9);exact .D o4 (.I (λh10=>.D o4 (.D h10 (nW (.I _) (.D _) (.D _)))) λh10=>mW h10 (uL h10))
  ·have o1:=eK h1 (cU h6);rw[(oK o1).1];refine .D (by rw[o1];rfl) (.I (λh7=> ?_) λ_=>.D (by rw[o1];rfl) ?_)
   ·have o2:=eK o1 (cU h7);exact .D o2 (.I (λ_=>nW (.I _) (.D _) (.D _)) λh8=>mW h8 (uL h8))
   ·refine .kL (λh8=>.D (by rw[o1];rfl) (.kL (λh9=> ?_) λh9=> ?_)) λh8=> ?_
    ·rw[h8,h9];have o2:=eK o1 (yR h8);exact .D o1 (.D rfl (.D o2 (.I (λ_=>nW (.I _) (.D _) (.D _)) λh10=>mW h10 (aeQ h10))))
    ·rw[h8,h9];exact .D o1 (.I (λ_=>nW (.I _) (.D _) (.D _)) λh10=>mW h10 (uL h10))
    ·rw[h8];exact .D o1 (.I (λ_=>nW (.I _) (.D _) (.D _)) λh10=>mW h10 (uL h10))
 ·cases h
def awB:(aI (ay an (aL []) Q9 aK) false f166 [] []).D=((af.g (.a (.d 249 [.u [.h [118,97,114],.z 201 [] []],.u [.h [114,101,97,100],.z 202 [] []],.u [.h [112,114,105,110,116],.z 203 [] []],.u [.h [114,101,116,117,114,110],.z 204 [] []],.u [.h [105,102],.z 205 [] []],.u [.h [119,104,105,108,101],.z 206 [] []]]) []))).D:=ae
def DK(s:List UInt8)(f:FuncId):aa:=.u [.h s,.z f [] []]
def awC:List aa:=[DK [118,97,114] 201,DK [114,101,97,100] 202,DK [112,114,105,110,116] 203,DK [114,101,116,117,114,110] 204,DK [105,102] 205,DK [119,104,105,108,101] 206]
def Uk:aq| [],[]=>.g (.a (.d 249 awC) []) |_,_=>.d
def awD:aH 166 Uk:=bI aQ awf λp q r h=>by
 unfold Uk at h;split at h
 ·exact awB.trans h
 ·cases h
def aeW(m:Nat):FuncId->aq:=aL [(166,Uk),(119,AW),(201,rB GL),(202,rB GM),(203,rB GN),(204,rB GO),(205,DI GQ m),(206,DI GP m),(168,LN),(167,Ui),(121,GI)]
def awE(m l a d):(aI (ay an (aeW m) J_ (cG an (aeW m) J_ 9 9).d) false f123 [.e 0 0,ah d] [aE l a]).D=((letI ai:=br l a &&decide ((0:Int)<=0) &&decide ((0:Int)<=1);letI ak:=i64.wrap (a+1);letI aw:=br l ak;letI aS:=GL l ak;letI bx:=GM l ak;letI bX:=GN l ak;letI cI:=GO l ak;letI fi:=match decide (20<d)with |true=>20 |false=>d;letI eA:=fB l m fi ak &&decide (fi<=50);letI jC:=GQ (iF l m) l fi ak;letI iw:=GP (iF l m) l fi ak;letI gv:=LP l (da l a) (a+1);af.c ai (.c (bG l (a+0) 3 [118,97,114]) (.c aw (.c (aS.c) (al (dV aS.b) [aE l aS.a]) (dc (.C 195 (.u [ah aS.d,ah aS.e])) [aE l aS.a])) .d) (.c ai (.c (bG l (a+0) 3 [114,101,97,100]) (.c aw (.c (bx.c) (al (dV bx.b) [aE l bx.a]) (dc (.C 195 (.u [ah bx.d,ah bx.e])) [aE l bx.a])) .d) (.c ai (.c (bG l (a+0) 3 [112,114,105,110,116]) (.c aw (.c (bX.c) (al (dV bX.b) [aE l bX.a]) (dc (.C 195 (.u [ah bX.d,ah bX.e])) [aE l bX.a])) .d) (.c ai (.c (bG l (a+0) 3 [114,101,116,117,114,110]) (.c aw (.c (cI.c) (al (dV cI.b) [aE l cI.a]) (dc (.C 195 (.u [ah cI.d,ah cI.e])) [aE l cI.a])) .d) (.c ai (.c (bG l (a+0) 3 [105,102]) (.c eA (.c (jC.c) (al (dV jC.b) [aE l jC.a]) (dc (.C 195 (.u [ah jC.d,ah jC.e])) [aE l jC.a])) .d) (.c ai (.c (bG l (a+0) 3 [119,104,105,108,101]) (.c eA (.c (iw.c) (al (dV iw.b) [aE l iw.a]) (dc (.C 195 (.u [ah iw.d,ah iw.e])) [aE l iw.a])) .d) (.c (br l a) (.c (oM l a) (.c (br l (a+1)) (.c (gv.c) (.c (br l gv.a) (.c (bG l gv.a (4:Int) [59]) (al (dV gv.b) [aE l (gv.a+1)]) (dc (.C 195 (.u [ah gv.a,ah 7])) [aE l gv.a])) .d) (dc (.C 195 (.u [ah gv.d,ah gv.e])) [aE l gv.a])) .d) (dc (.C 195 (.u [ah a,ah 7])) [aE l a])) .d)) .d)) .d)) .d)) .d)) .d)) .d):af aC).D:=ae
def LS(m:Nat):FuncId->aq:=aL [(119,AW),(120,yQ),(121,GI),(122,GH),(123,LQ m)]
def awF(m:Nat)(l x)(n:Nat)(a d:Int):(cB (ay an (LS m) As aK) 1 5 (cq As 0) [.e 0 0,ah d,.y 97 1 0 n] [aE l a,.b false 0 97 x]).D=((letI ai:=lQ (iF l m) l d a;af.c (br l a) (.c (bG l a 4 [125]) (.g ((.a 0,[.y 97 1 0 n],[aE l (a+1),.b false 0 97 x]))) (.c (fB l m d a &&decide (d<=50)) (.c (ai.c) (.c (decide (x.length+1<=4294967296)) (.g ((.b,[.e 0 0,ah d,.y 97 1 0 (x++ [dV ai.b]).length],[aE l ai.a,.b false 0 97 (x++ [dV ai.b])]))) .d) (.g ((.e (.C 195 (.u [ah ai.d,ah ai.e])),[.y 97 1 0 n],[aE l ai.a,.b false 0 97 x])))) .d)) .d):af (aU×List aa×List aj)).D:=ae
def aeX(f e:Int):aU:=.e (.C 195 (.u [.c .i64 f,.c .i64 e]))
def LU(l:List aa)(r:b6):aU×List aa×List aj:=bif r.c then(.a 0,[.y 97 1 0 r.b.U.length],[aE l r.a,.b false 0 97 r.b.U])else(aeX r.d r.e,[.y 97 1 0 r.b.U.length],[aE l r.a,.b false 0 97 r.b.U])
def aeY(l r):py (LU l r)=true:=by unfold LU;cases r.c<;>rfl
def aeZ(h:br l a=true)(h1:(l.length:Int)-a<m)(h2:0<=d)(h3:d<=50):(fB l m d a &&decide (d<=50))=true:=by rw[gP.2 ⟨h,h1,h2,ab⟩,aD h3];rfl
def ae0(m:Nat)(l)(d:Int)(hd:0<=d)(je:d<=50):∀(k:Nat)(x:List aa)(a:Int),br l a=true->(l.length:Int)-a<k->(l.length:Int)-a<m->(x.length:Int)<=a->
  bw an (LS m) As 1 5 [.e 0 0,.c .i64 d,.y 97 1 0 x.length] [aE l a,.b false 0 97 x] (LU l (mX (lQ (iF l m) l d) l k x a))
 |0,x,a,h0,h1,h2,Y6=>by have:=dy.1 h0;omega
 |k+1,x,a,h0,h1,h2,Y6=>by have h3:=dy.1 h0;refine eB.V aeP 0 ae ae cv (awF m l x x.length a d) (.D h0 ?_);unfold mX;refine .U (λh5=>.I rfl (aeY _ _)) λ_=> ?_;refine .D (aeZ h0 h2 hd je) (.U (λh6=> ?_) λh6=>.I rfl (aeY _ _));have h7:=(Uj (d:=d) (uK h0) (LR (uK h0) m) h3.1 h3.2.1 ab).1 h6;refine .D (aD (show x.length+1<=4294967296 from ab)) (.mR ?_);exact ae0 m l d hd je k (x++ [dV (lQ (iF l m) l d a).b]) _ (kQ h0 ab h7.2) ab ab (by simp;omega)
def awG(h0:0<=d):0<=sV d/\sV d<=20:=by
 unfold sV;cases h:decide ((20:Int)<d)with
 |true=>exact⟨by show(0:Int)<=20;omega,by show(20:Int)<=20;omega⟩
 |false=>have:=eS h;exact⟨by show 0<=d;omega,by show d<=20;omega⟩
def DL:dO (.c r.c (.g (.a (dV r.b) [aE l r.a])) (.g (.b (.C 195 (.u [.c .i64 r.d,.c .i64 r.e])) [aE l r.a]))) (yS l r):=.kL (λh=>awk h) λh=>mW h rfl
def awH(hB:aH 88 (wH m)):aH 123 (LQ m):=yi aW c_ (aA awD (aA DE (aA awl (aA awm (aA awn (aA awo (aA (awz hB) (aA (awy hB) (aA aeO (aA awA (aA Ue aQ))))))))))) awe rfl (sH 9) λp q r h=>by
 unfold LQ at h;split at h
 ·rename_i d l a;obtain⟨h1,h2⟩:=aO h;rw[yT]at h2;cases h2;rw[au,bC]at h1;obtain⟨h3,h4,h5,h6⟩:=gP.1 h1.1;have h0:=dy.1 h3;have bg:=awE m l a d;rw[(oK h3).1,ED]at bg;have hm:=awG h5;refine .V bg (.D (uJ h3) (.I (λh7=> ?_) λ_=> ?_))
  ·exact .D (eK h3 (cU h7)) DL
  refine .D (uJ h3) (.I (λh7=>.D (eK h3 (cU h7)) DL) λ_=> ?_);refine .D (uJ h3) (.I (λh7=>.D (eK h3 (cU h7)) DL) λ_=> ?_);refine .D (uJ h3) (.I (λh7=>.D (eK h3 (cU h7)) DL) λ_=> ?_);refine .D (uJ h3) (.I (λh7=> ?_) λ_=> ?_)
  ·have g:=cU h7;exact .D (show(fB l m (sV d) (a+1) &&decide (sV d<=50))=true by rw[gP.2 ⟨eK h3 g,ab,hm.1,ab⟩,aD (show sV d<=50 from ab)];rfl) DL
  refine .D (uJ h3) (.I (λh7=> ?_) λ_=> ?_)
  ·have g:=cU h7;exact .D (show(fB l m (sV d) (a+1) &&decide (sV d<=50))=true by rw[gP.2 ⟨eK h3 g,ab,hm.1,ab⟩,aD (show sV d<=50 from ab)];rfl) DL
  refine .D h3 (.I (λh7=> ?_) λ_=>.U rfl);have o1:=eK h3 (yR h7);refine .D o1 (.I (λh8=> ?_) λh8=>mW h8 rfl);have g8:=(aeT (nm:=da l a) (uK h3) ab (dy.1 o1).2.1).1 h8;exact .D (kQ h3 ab g8.2) (.I (λ_=>nW (.I _) (.I _) (.I _)) λ_=>.U rfl)
 ·cases h
def Ul(M:Nat):dk:=λm_ key vs os=>match vs,os with
 | [.e 0 0,.c .i64 d,.y 97 1 0 0],[.a false [.d 80 l,.c .i64 a],.b false 0 97 []]=>.I (fB l M d a &&decide (d<=50) &&Nat.beq m_ 1 &&Nat.beq key 5)
  (.c (mX (lQ (iF l M) l d) l (l.length+1) [] a).c (.g (.a 0,[.y 97 1 0 (mX (lQ (iF l M) l d) l (l.length+1) [] a).b.U.length],[aE l (mX (lQ (iF l M) l d) l (l.length+1) [] a).a,.b false 0 97 (mX (lQ (iF l M) l d) l (l.length+1) [] a).b.U]))
   (.g (aeX (mX (lQ (iF l M) l d) l (l.length+1) [] a).d (mX (lQ (iF l M) l d) l (l.length+1) [] a).e,[.y 97 1 0 (mX (lQ (iF l M) l d) l (l.length+1) [] a).b.U.length],[aE l (mX (lQ (iF l M) l d) l (l.length+1) [] a).a,.b false 0 97 (mX (lQ (iF l M) l d) l (l.length+1) [] a).b.U])))
 |_,_=>.d
def awI(M:Nat):cJ an (LS M) As (Ul M):=by
 intro m_ key vs os r h;unfold Ul at h;split at h
 ·rename_i d l a;obtain⟨h1,h2⟩:=aO h;simp only[au,bC,aNx]at h1;obtain⟨⟨⟨h3,hd⟩,rfl⟩,rfl⟩:=h1;obtain⟨h4,h5,h6,h7⟩:=gP.1 h3;have h0:=dy.1 h4;have h8:=ae0 M l d h6 hd (l.length+1) [] a h4 ab h5 (by simp;omega);unfold LU at h8;cases hc:(mX (lQ (iF l M) l d) l (l.length+1) [] a).c<;>rw[hc]at h2 h8<;>cases h2<;>exact h8
 ·simp[af.D]at h
def awJ(M l a d):(aI (ay an (LS M) As (Ul M)) false f88 [.e 0 0,ah d] [aE l a]).D=((letI ai:=mX (lQ (iF l M) l d) l (l.length+1) [] (a+1);letI ak:af aC:=.c (br l a) (.c (bG l a 4 [123]) (.c (fB l M d (a+1) &&decide (d<=50) &&Nat.beq 1 1 &&Nat.beq 5 5) (.c (ai.c) (al (.d 97 ai.b.U) [aE l ai.a]) (dc (.C 195 (.u [ah ai.d,ah ai.e])) [aE l ai.a])) .d) (dc (.C 195 (.u [ah a,ah 7])) [aE l a])) .d;af.c (br l a &&decide ((0:Int)<=0) &&decide ((0:Int)<=1)) (.c (bG l (a+0) 4 [123]) (.c (decide (d>20)) (dc (.C 195 (.u [ah a,ah 8])) [aE l a]) ak) ak) .d):af aC).D:=ae
def awK(l r):(Uh l r).D=some (AZ l r):=by unfold Uh AZ;cases r.c<;>rfl
def awL(h:r.c=false)(ha:r.a=a):dO (.g (.b (.C 195 (.u [.c .i64 r.d,.c .i64 r.e])) [aE l a])) (AZ l r):=.U (by unfold AZ;rw[h,ha];rfl)
def awM(h:r.c=true):dO (.g (.a (.d 97 r.b.U) [aE l r.a])) (AZ l r):=.U (by unfold AZ;rw[h];rfl)
def awN(hS:aH 123 (LQ m)):aH 88 (wH (m+1)):=yi aW c_ (aA DE (aA DF (aA Ue (aA Ud (aA hS aQ))))) aeP rfl (awI m) λp q r h=>by
 unfold wH at h;split at h
 ·rename_i d l a;obtain⟨h1,h2⟩:=aO h;rw[awK]at h2;cases h2;obtain⟨h3,h4,h5,h6⟩:=gP.1 h1;have h0:=dy.1 h3;have bg:=awJ m l a d;rw[ED]at bg;refine .V bg (.D (uJ h3) ?_);show dO _ (AZ l (bif bG l a 4 [123]then(bif decide (d>20)then dM a 8 a else mX (lQ (iF l m) l d) l (l.length+1) [] (a+1))else dM a 7 a));refine .I (λh7=> ?_) λh7=>.D h3 (.JV h7 (.U rfl));refine .I (λ_=>.U rfl) λh8=>.D h3 (.D h7 ?_);have g8:=eS h8;have g:=cU h7;refine .D (by rw[aeZ (m:=m) (eK h3 g) ab h5 (show d<=50 from ab)];rfl) (.kL (λh9=>awM h9) λh9=>awL h9 rfl)
 ·cases h
def ae1:∀m:Nat,aH 88 (wH m)
 |0=>λp q r h=>by
  unfold wH at h;split at h
  ·obtain⟨h1,h2⟩:=aO h;obtain⟨h3,h4,_⟩:=gP.1 h1;have:=dy.1 h3;omega
  ·simp[af.D]at h
 |m+1=>awN (awH (ae1 m))
end
end Go.Proofs.YtkcikbcpjdccmaaGreatDoor
