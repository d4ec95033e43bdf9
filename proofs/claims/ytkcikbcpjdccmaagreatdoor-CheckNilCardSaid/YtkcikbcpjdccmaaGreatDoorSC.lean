/- A part of the proof. -/
import Derived.Test.YtkcikbcpjdccmaaGreatDoorSB
set_option linter.all false
namespace Go.Proofs.YtkcikbcpjdccmaaGreatDoor
open Go Go.AH Go.RowKit Go.Proofs.Tryz
open Go.IntKind (i64)
set_option maxRecDepth 100000
noncomputable section
variable{f e:Int}{l:List aa}{a:Int}{nm:List UInt8}{x y:Value}{ps bo:List aa}{b:Nat}{P:Program}{off:Nat}{B:List Nat}{v:aa}{S:Nat->Prop}{q:Nat}{u:Value}{w:World}{n:Int}{w':World}{k:Nat}{O:Nat->Prop}{m:Nat}{T:TypeId->bz}{G:Nat->aa}{t:TypeId}{cap:Nat}{i:Int}{Q:Exit->Act->World->Prop}{s:List UInt8}{vs:List aa}{os:List aj}{kin qX:List Nat}{vs' fs:List aa}
def awO:=aR 87 Q_ ae
def awP:=aR 118 Ra ae
def awQ:=aR 47 Rb ae
def awR:FuncId->Option aa->aq:=yh an (aL []) 118 Ra
def awS:FuncId->aq:=aL [(88,wH 1000002)]
def awT(l a d):(qg (ay an awS Q_ aK) awR false f87 [.d 80 l,ah a,ah d,.z 88 [] []] []).D=((letI ai:af aC:=al (.q [.w,ah 0,ah 3]) [];letI ak:=iF l 1000002 d a;af.c (!decide (a<0)) (.c (!decide (a>(↑l.length:Int))) (.c (decide (d<1)) ai (.c (fB l 1000002 d a) (.c (ak.c) (al (.q [.d 97 ak.b.U,ah ak.a,ah 0]) []) (al (.q [.d 97 [],ah ak.d,ah ak.e]) [])) .d)) ai) ai):af aC).D:=ae
def pC(l:List aa)(a d:Int):b6:=bif !decide (a<0)then(bif !decide (a>(l.length:Int))then(bif decide (d<1)then dM 0 3 0 else iF l 1000002 d a)else dM 0 3 0)else dM 0 3 0
def LV(r:b6):aC:=bif r.c then .a (.q [.d 97 r.b.U,.c .i64 r.a,.c .i64 0]) []else .a (.q [.d 97 [],.c .i64 r.d,.c .i64 r.e]) []
def LW(r:b6):af aC:=.c r.c (.g (.a (.q [.d 97 r.b.U,.c .i64 r.a,.c .i64 0]) [])) (.g (.a (.q [.d 97 [],.c .i64 r.d,.c .i64 r.e]) []))
def awU(r):(LW r).D=some (LV r):=by unfold LW LV;cases r.c<;>rfl
def Um:aq| [.d 80 l,.c .i64 a,.c .i64 d,.z 88 [] []],[]=>.I (fq l &&decide (d<=100)) (LW (pC l a d)) |_,_=>.d
def Un:dO (.g (.a (.q [.w,.c .i64 f,.c .i64 e]) [])) (.a (.q [.d 97 [],.c .i64 f,.c .i64 e]) []):=.nL (.a _ (.U (.I (.D _) (.D _ (.D _ .U)))))
def awV:aH 87 Um:=PT aW c_ (aA (ae1 1000002) aQ) (PR aW c_ aQ awP rfl) awO rfl cv λp q r h=>by
 unfold Um at h;split at h
 ·rename_i l a d;obtain⟨h1,h2⟩:=aO h;rw[awU]at h2;cases h2;rw[au,bC]at h1;refine .V (awT l a d) (.I (λh3=> ?_) λ_=>Un);refine .I (λh4=> ?_) λ_=>Un;refine .I (λh5=>Un) λh5=> ?_;have g3:=eS (nJ h3);have g4:=eS (nJ h4);have g5:=eS h5;have o1:=uI h1.1 (show 0<=a from ab) ab;have g6:=dy.1 o1;refine .D (gP.2 ⟨o1,ab,ab,h1.2⟩) (.kL (λh6=> ?_) λh6=> ?_)
  ·exact .U (by unfold LV;rw[h6];rfl)
  ·exact .U (by unfold LV;rw[h6];rfl)
 ·cases h
def Uo:aq| [.d 80 l,.c .i64 a,.c .i64 d],[]=>.I (fq l &&decide (d<=100)) (LW (pC l a d)) |_,_=>.d
def awW(l a d):(aI (ay an (aL [(87,Um)]) Rb aK) false f47 [.d 80 l,ah a,ah d] []).D=((af.c (fq l &&decide (d<=100)) (.c ((pC l a d).c) (al (.q [.d 97 (pC l a d).b.U,ah (pC l a d).a,ah 0]) []) (al (.q [.d 97 [],ah (pC l a d).d,ah (pC l a d).e]) [])) .d)).D:=ae
def awX:aH 47 Uo:=bI (aA awV aQ) awQ λp q r h=>by
 unfold Uo at h;split at h
 ·rename_i l a d;exact(awW l a d).trans h
 ·cases h
def ae2{d:Int}(h:fq l=true)(h0:0<=a)(h1:a<=(l.length:Int)):fp l a (pC l a d):=by have h2:=dy.1 (uI h h0 h1);exact cZ (λ_=>cZ (λ_=>cZ (λ_=>eQ ab ab av) λ_=>LR h 1000002 d a h0 h1 ab) λ_=>eQ ab ab av) λ_=>eQ ab ab av
def awY:=aR 116 Rc ae
def awZ:=aR 82 Re ae
def aw0:=aR 83 Rf ae
def aw1:=aR 86 Rg ae
def aw2:=aR 85 Rh ae
def ae3:=aR 84 Au ae
def aw3:=aR 46 Ri ae
def aw4:=aR 26 Rj ae
def Up:=aR 12 um ae
def aw5:=aR 24 Rk ae
def aw6(l a):(aI (ay an (aL []) Rc aK) false f116 [.e 0 0] [aE l a]).D=((af.c (decide (a>=(↑l.length:Int))) (al (AL 0 [] 0) [aE l a]) (.c (decide (0<=a) &&decide (a<(↑l.length:Int))) (al (AL ((l.getD a.toNat .m).D 0).I ((l.getD a.toNat .m).D 1).bJ ((l.getD a.toNat .m).D 2).I) [aE l a]) .d))).D:=ae
def wK(l:List aa)(a:Int):Int:=bif decide (a>=(l.length:Int))then 0 else gk l a
def sW(l:List aa)(a:Int):List UInt8:=bif decide (a>=(l.length:Int))then[]else da l a
def ae4(l:List aa)(a:Int):Int:=bif decide (a>=(l.length:Int))then 0 else((l.getD a.toNat .m).D 2).I
def LX:aq| [.e 0 0],[.a false [.d 80 l,.c .i64 a]]=>.I (br l a) (.g (.a (.u [.c .i64 (wK l a),.h (sW l a),.c .i64 (ae4 l a)]) [aE l a])) |_,_=>.d
def Uq:aH 116 LX:=bI aQ awY λp q r h=>by
 unfold LX at h;split at h
 ·rename_i l a;obtain⟨h1,h2⟩:=aO h;refine(aw6 l a).trans (bS ?_ h2);unfold wK sW ae4;refine eu (λh3=>by rw[h3];rfl) λh3=> ?_;rw[h3];have:=eS h3;exact aZ (by rw[aD (dy.1 h1).1,aD (show a<(l.length:Int)from ab)];rfl) rfl
 ·cases h
def aw7:FuncId->aq:=aL [(116,LX)]
def aw8(l a k t):(aI (ay an aw7 Re aK) false f82 [.e 0 0,ah k,.h t] [aE l a]).D=((af.c (br l a) (.c (!wK l a !=k) (.c (!sW l a==t) (al (.p false) [aE l a]) (al (.p true) [aE l (i64.wrap (a+1))])) (al (.p false) [aE l a])) .d)).D:=ae
def ae5:FuncId->aq:=aL [(116,LX),(63,wv),(117,LL)]
def aw9(l a):(aI (ay an ae5 Rf aK) false f83 [.e 0 0] [aE l a]).D=((af.c (br l a) (.c (!wK l a !=1) (.c (!jX (sW l a)) (al (.q [.h [],.p false]) [aE l a]) (al (.q [.h (sW l a),.p true]) [aE l (i64.wrap (a+1))])) (al (.q [.h [],.p false]) [aE l a])) .d)).D:=ae
def aw_(l a):(aI (ay an ae5 Rg aK) false f86 [.e 0 0] [aE l a]).D=((af.c (br l a) (.c (!wK l a !=3) (.c (mV (sW l a)==0) (al (.q [ah 0,.p false]) [aE l a]) (al (.q [ah (mV (sW l a)),.p true]) [aE l (i64.wrap (a+1))])) (al (.q [ah 0,.p false]) [aE l a])) .d)).D:=ae
def Ur(h:decide (a>=(l.length:Int))=true):wK l a=0/\sW l a=[]/\decide (a<(l.length:Int))=false:=by have:=ff h;unfold wK sW;rw[h];exact⟨rfl,rfl,ly ab⟩
def Us(h:decide (a>=(l.length:Int))=false):wK l a=gk l a/\sW l a=da l a/\decide (a<(l.length:Int))=true:=by have:=eS h;unfold wK sW;rw[h];exact⟨rfl,rfl,aD ab⟩
def LY:aq| [.e 0 0,.c .i64 k,.h t],[.a false [.d 80 l,.c .i64 a]]=>.I (br l a &&decide (0<k)) (.c (bG l a k t) (.g (.a (.p true) [aE l (a+1)])) (.g (.a (.p false) [aE l a]))) |_,_=>.d
def ae6:aH 82 LY:=bI (aA Uq aQ) awZ λp q r h=>by
 unfold LY at h;split at h
 ·rename_i k t l a;obtain⟨h1,h2⟩:=aO h;rw[au,bC]at h1;refine(aw8 l a k t).trans (bS (aZ h1.1 ?_) h2);rw[(oK h1.1).1];unfold bG;cases hb:decide (a>=(l.length:Int))with
  |true=>
   obtain⟨e1,e2,e3⟩:=Ur hb;have e4:(!((0:Int) !=k))=false:=by simp;omega
   rw[e1,e2,e3,e4];rfl
  |false=>
   obtain⟨e1,e2,e3⟩:=Us hb;rw[e1,e2,e3];cases hk:(gk l a==k)with
   |true=>rw[show(!(gk l a !=k))=true by rw[bne,hk];rfl];cases da l a==t<;>rfl
   |false=>rw[show(!(gk l a !=k))=false by rw[bne,hk];rfl];rfl
 ·cases h
def LZ:aq| [.e 0 0],[.a false [.d 80 l,.c .i64 a]]=>.I (br l a) (.c (nT l a) (.g (.a (.q [.h (da l a),.p true]) [aE l (a+1)])) (.g (.a (.q [.h [],.p false]) [aE l a]))) |_,_=>.d
def ae7:aH 83 LZ:=bI (aA Uq (aA yE (aA Uc aQ))) aw0 λp q r h=>by
 unfold LZ at h;split at h
 ·rename_i l a;obtain⟨h1,h2⟩:=aO h;refine(aw9 l a).trans (bS (aZ h1 ?_) h2);rw[(oK h1).1];unfold nT;cases hb:decide (a>=(l.length:Int))with
  |true=>obtain⟨e1,e2,e3⟩:=Ur hb;rw[e1,e2];rfl
  |false=>obtain⟨e1,e2,e3⟩:=Us hb;rw[e1,e2];cases(gk l a !=1)<;>cases jX (da l a)<;>rfl
 ·cases h
def uM(l:List aa)(a:Int):Bool:= !decide (a>=(l.length:Int)) && !(gk l a !=3) && !(mV (da l a)==0)
def ae8(h:uM l a=true):a<(l.length:Int):=by unfold uM at h;rw[au,au]at h;have:=eS (nJ h.1.1);omega
def L0:aq| [.e 0 0],[.a false [.d 80 l,.c .i64 a]]=>.I (br l a) (.c (uM l a) (.g (.a (.q [.c .i64 (mV (da l a)),.p true]) [aE l (a+1)])) (.g (.a (.q [.c .i64 0,.p false]) [aE l a]))) |_,_=>.d
def ae9:aH 86 L0:=bI (aA Uq (aA yE (aA Uc aQ))) aw1 λp q r h=>by
 unfold L0 at h;split at h
 ·rename_i l a;obtain⟨h1,h2⟩:=aO h;refine(aw_ l a).trans (bS (aZ h1 ?_) h2);rw[(oK h1).1];unfold uM;cases hb:decide (a>=(l.length:Int))with
  |true=>obtain⟨e1,e2,e3⟩:=Ur hb;rw[e1,e2];rfl
  |false=>obtain⟨e1,e2,e3⟩:=Us hb;rw[e1,e2];cases(gk l a !=3)<;>cases mV (da l a)==0<;>rfl
 ·cases h
def pD(v:aa):aa:=nR (v.D 0).bJ (v.D 1).I
def sX(v:aa)(a:Int):b6:=⟨false,v,a,0,0⟩
def fN(l:List aa)(a:Int):b6:=bif nT l a then(bif uM l (a+1)then fA (nR (da l a) (mV (da l (a+1)))) (a+1+1)else sX (nR (da l a) 0) (a+1))else sX (nR [] 0) a
def Ut:aq| [.e 0 0],[.a false [.d 80 l,.c .i64 a]]=>.I (br l a) (.g (.a (.q [pD (fN l a).b,.p (fN l a).c]) [aE l (fN l a).a])) |_,_=>.d
def aw':FuncId->aq:=aL [(83,LZ),(86,L0)]
def axa(l a):(aI (ay an aw' Rh aK) false f85 [.e 0 0] [aE l a]).D=((af.c (br l a) (.c (nT l a) (.c (br l (a+1)) (.c (uM l (a+1)) (al (.q [nR (da l a) (mV (da l (a+1))),.p true]) [aE l (a+1+1)]) (al (.q [nR (da l a) 0,.p false]) [aE l (a+1)])) .d) (al (.q [nR [] 0,.p false]) [aE l a])) .d)).D:=ae
def axb(l:List aa)(r:b6):aC:=.a (.q [pD r.b,.p r.c]) [aE l r.a]
def axc:aH 85 Ut:=bI (aA ae7 (aA ae9 aQ)) aw2 λp q r h=>by
 unfold Ut at h;split at h
 ·rename_i l a;obtain⟨h1,h2⟩:=aO h;refine(axa l a).trans (bS (aZ h1 ?_) h2);show _=some (axb l (fN l a));refine bK (λh3=> ?_) λ_=>rfl;exact aZ (eK h1 (yL h3)) (bK (λ_=>rfl) λ_=>rfl)
 ·cases h
def L1:FuncId->aq:=aL [(82,LY),(85,Ut)]
def axd(l x n a):(cB (ay an L1 Au aK) 1 4 (cq Au 0) [.e 0 0,.z 85 [.e 0 0] [],.y 101 1 0 n] [aE l a,.b false 0 101 x]).D=((letI ai:=br l a &&decide ((0:Int)<4);letI ak:=fN l (a+1);letI aw:List aa:=[.y 101 1 0 0,.p false,.y 101 2 0 n];letI aS:=decide (x.length+1<=4294967296);letI bx:=fN l a;af.c ai (.c (bG l a 4 [41]) (.g ((.a 0,[.m,.m,.y 101 1 0 n],[aE l (a+1),.b false 0 101 x]))) (.c (decide ((↑n:Int)>0)) (.c ai (.c (bG l a 4 [44]) (.c (br l (a+1)) (.c (!ak.c) (.g ((.c,aw,[aE l ak.a,.b false 0 101 [],.b false 0 101 x]))) (.c aS (.g ((.b,[.e 0 0,.z 85 [.e 0 0] [],.y 101 1 0 (x++ [pD ak.b]).length],[aE l ak.a,.b false 0 101 (x++ [pD ak.b])]))) .d)) .d) (.g ((.c,aw,[aE l a,.b false 0 101 [],.b false 0 101 x])))) .d) (.c (br l a) (.c (!bx.c) (.g ((.c,aw,[aE l bx.a,.b false 0 101 [],.b false 0 101 x]))) (.c aS (.g ((.b,[.e 0 0,.z 85 [.e 0 0] [],.y 101 1 0 (x++ [pD bx.b]).length],[aE l bx.a,.b false 0 101 (x++ [pD bx.b])]))) .d)) .d))) .d):af (aU×List aa×List aj)).D:=ae
def L2(h:br l a=true):a<=(fN l a).a/\(fN l a).a<=(l.length:Int)/\((fN l a).c=true->a<(fN l a).a):=by
 have h0:=dy.1 h;unfold fN;cases h1:nT l a with
 |false=>exact⟨j1 _,h0.2.1,λh=>(by cases h)⟩
 |true=>
  have:=yL h1;cases h2:uM l (a+1)with
  |false=>exact⟨(by show a<=a+1;omega),(by show a+1<=_;omega),λh=>(by cases h)⟩
  |true=>have:=ae8 h2;exact⟨(by show a<=a+1+1;omega),(by show a+1+1<=_;omega),λ_=>(by show a<a+1+1;omega)⟩
def iW(l:List aa):Nat->List aa->Int->b6
 |0,x,a=>sX (.d 101 x) a
 |k+1,x,a=>bif bG l a 4 [41]then fA (.d 101 x) (a+1)else
  bif decide ((x.length:Int)>0)then(bif bG l a 4 [44]then(bif !(fN l (a+1)).c then sX (.d 101 x) (fN l (a+1)).a else iW l k (x++ [pD (fN l (a+1)).b]) (fN l (a+1)).a)else sX (.d 101 x) a)
  else(bif !(fN l a).c then sX (.d 101 x) (fN l a).a else iW l k (x++ [pD (fN l a).b]) (fN l a).a)
def L3(l:List aa)(r:b6):aU×List aa×List aj:=bif r.c then(.a 0,[.m,.m,.y 101 1 0 r.b.U.length],[aE l r.a,.b false 0 101 r.b.U])
 else(.c,[.y 101 1 0 0,.p false,.y 101 2 0 r.b.U.length],[aE l r.a,.b false 0 101 [],.b false 0 101 r.b.U])
def L4(l r):py (L3 l r)=true:=by unfold L3;cases r.c<;>rfl
def Uu(h:br l a=true):(br l a &&decide ((0:Int)<4))=true:=by rw[h];rfl
def Uv(l):∀(k:Nat)(x:List aa)(a:Int),br l a=true->(l.length:Int)-a<k->(x.length:Int)<=a->
  bw an L1 Au 1 4 [.e 0 0,.z 85 [.e 0 0] [],.y 101 1 0 x.length] [aE l a,.b false 0 101 x] (L3 l (iW l k x a))
 |0,x,a,h0,h1,Y6=>by have:=dy.1 h0;omega
 |k+1,x,a,h0,h1,Y6=>by
  have h3:=dy.1 h0;refine eB.V ae3 0 ae ae cv (axd l x x.length a) (.D (Uu h0) ?_);unfold iW;refine .U (λh5=>.I rfl (L4 _ _)) λ_=>.U (λ_=>.D (Uu h0) (.U (λh6=> ?_) λ_=>.I rfl (L4 _ _))) λ_=>.D h0 (.U (λ_=>.I rfl (L4 _ _)) λh7=> ?_)
  ·have o1:=eK h0 (cU h6);have g:=L2 o1;refine .D o1 (.U (λ_=>.I rfl (L4 _ _)) λh7=> ?_);have g2:=g.2.2 (mQ h7);refine .D (aD (show x.length+1<=4294967296 from ab)) (.mR ?_);exact Uv l k (x++ [pD (fN l (a+1)).b]) _ (kQ h0 ab g.2.1) ab (by simp;omega)
  ·have g:=L2 h0;have g2:=g.2.2 (mQ h7);refine .D (aD (show x.length+1<=4294967296 from ab)) (.mR ?_);exact Uv l k (x++ [pD (fN l a).b]) _ (kQ h0 ab g.2.1) ab (by simp;omega)
def Uw{l}:∀(k:Nat)(x:List aa)(a:Int),br l a=true->a<=(iW l k x a).a/\(iW l k x a).a<=(l.length:Int)
 |0,x,a,h0=>⟨j1 _,(dy.1 h0).2.1⟩
 |k+1,x,a,h0=>by
  have h3:=dy.1 h0;unfold iW;cases h5:bG l a 4 [41]with
  |true=>have:=cU h5;exact⟨(by show a<=a+1;omega),(by show a+1<=_;omega)⟩
  |false=>
   cases decide ((x.length:Int)>0)with
   |true=>
    cases h6:bG l a 4 [44]with
    |false=>exact⟨j1 _,h3.2.1⟩
    |true=>
     have o1:=eK h0 (cU h6);have g:=L2 o1;cases h7: !(fN l (a+1)).c with
     |true=>exact⟨(by show a<=(fN l (a+1)).a;omega),(by show(fN l (a+1)).a<=_;omega)⟩
     |false=>have ih:=Uw k (x++ [pD (fN l (a+1)).b]) _ (kQ h0 (show 0<=(fN l (a+1)).a from ab) g.2.1);exact⟨(by show a<=(iW l k (x++ [pD (fN l (a+1)).b]) (fN l (a+1)).a).a;omega),ih.2⟩
   |false=>
    have g:=L2 h0;cases h7: !(fN l a).c with
    |true=>exact⟨g.1,g.2.1⟩
    |false=>have ih:=Uw k (x++ [pD (fN l a).b]) _ (kQ h0 (show 0<=(fN l a).a from ab) g.2.1);exact⟨(by show a<=(iW l k (x++ [pD (fN l a).b]) (fN l a).a).a;omega),ih.2⟩
def Ux:dk:=λm_ key vs os=>match vs,os with
 | [.e 0 0,.z 85 [.e 0 0] [],.y 101 1 0 0],[.a false [.d 80 l,.c .i64 a],.b false 0 101 []]=>.I (br l a &&Nat.beq m_ 1 &&Nat.beq key 4)
  (.c (iW l (l.length+1) [] a).c (.g (.a 0,[.m,.m,.y 101 1 0 (iW l (l.length+1) [] a).b.U.length],[aE l (iW l (l.length+1) [] a).a,.b false 0 101 (iW l (l.length+1) [] a).b.U]))
   (.g (.c,[.y 101 1 0 0,.p false,.y 101 2 0 (iW l (l.length+1) [] a).b.U.length],[aE l (iW l (l.length+1) [] a).a,.b false 0 101 [],.b false 0 101 (iW l (l.length+1) [] a).b.U])))
 |_,_=>.d
def axe:cJ an L1 Au Ux:=by
 intro m_ key vs os r h;unfold Ux at h;split at h
 ·rename_i l a;obtain⟨h1,h2⟩:=aO h;simp only[au]at h1;obtain⟨⟨h3,hm⟩,hk⟩:=h1;obtain rfl:=aV hm;obtain rfl:=aV hk;have h0:=dy.1 h3;have h8:=Uv l (l.length+1) [] a h3 ab (by simp;omega);unfold L3 at h8;cases hc:(iW l (l.length+1) [] a).c<;>rw[hc]at h2 h8<;>cases h2<;>exact h8
 ·simp[af.D]at h
def jo(l:List aa)(a:Int):b6:=bif bG l a 4 [40]then(bif (iW l (l.length+1) [] (a+1)).c then iW l (l.length+1) [] (a+1)else sX (.d 101 []) (iW l (l.length+1) [] (a+1)).a)else sX (.d 101 []) a
def axf(l a):(aI (ay an L1 Au Ux) false f84 [.e 0 0,.z 85 [.e 0 0] []] [aE l a]).D=((letI ai:=iW l (l.length+1) [] (a+1);letI ak:aa:=.q [.d 101 [],.p false];af.c (br l a &&decide ((0:Int)<4)) (.c (bG l a 4 [40]) (.c (br l (a+1) &&Nat.beq 1 1 &&Nat.beq 4 4) (.c (ai.c) (al (.q [.d 101 ai.b.U,.p true]) [aE l ai.a]) (al ak [aE l ai.a])) .d) (al ak [aE l a])) .d):af aC).D:=ae
def Uy:aq| [.e 0 0,.z 85 [.e 0 0] []],[.a false [.d 80 l,.c .i64 a]]=>.I (br l a) (.g (.a (.q [.d 101 (jo l a).b.U,.p (jo l a).c]) [aE l (jo l a).a])) |_,_=>.d
def ae_(l:List aa)(r:b6):aC:=.a (.q [.d 101 r.b.U,.p r.c]) [aE l r.a]
def axg:aH 84 Uy:=dN aW c_ (aA ae6 (aA axc aQ)) ae3 rfl axe λp q r h=>by
 unfold Uy at h;split at h
 ·rename_i l a;obtain⟨h1,h2⟩:=aO h;refine(axf l a).trans (bS (aZ (Uu h1) ?_) h2);show _=some (ae_ l (jo l a));refine bK (λh3=> ?_) λ_=>rfl;refine aZ (by rw[eK h1 (cU h3)];rfl) (bK (λh4=> ?_) λ_=>rfl);unfold ae_;rw[h4];rfl
 ·cases h
def ae'(h:br l a=true):a<=(jo l a).a/\(jo l a).a<=(l.length:Int):=by
 have h0:=dy.1 h;unfold jo;cases h3:bG l a 4 [40]with
 |false=>exact⟨j1 _,h0.2.1⟩
 |true=>
  have o1:=eK h (cU h3);have g:=Uw (l.length+1) [] _ o1;cases h4:(iW l (l.length+1) [] (a+1)).c with
  |true=>exact⟨(by show a<=(iW l (l.length+1) [] (a+1)).a;omega),(by show(iW l (l.length+1) [] (a+1)).a<=_;omega)⟩
  |false=>exact⟨(by show a<=(iW l (l.length+1) [] (a+1)).a;omega),(by show(iW l (l.length+1) [] (a+1)).a<=_;omega)⟩
def GS:aa:=aG [] [] 0 [] 0
def jZ(l:List aa)(a:Int):b6:=bif bG l a 3 [102,117,110,99]then(bif nT l (a+1)then(bif !(jo l (a+1+1)).c then sX GS (jo l (a+1+1)).a else
  (bif uM l (jo l (a+1+1)).a then fA (aG (da l (a+1)) (jo l (a+1+1)).b.U (mV (da l (jo l (a+1+1)).a)) [] 0) ((jo l (a+1+1)).a+1)else fA (aG (da l (a+1)) (jo l (a+1+1)).b.U 0 [] 0) (jo l (a+1+1)).a))else sX GS (a+1))else sX GS a
def Uz:aq| [.e 0 0],[.a false [.d 80 l,.c .i64 a]]=>.I (br l a) (.g (.a (.q [lP (jZ l a).b,.p (jZ l a).c]) [aE l (jZ l a).a])) |_,_=>.d
def afa(l:List aa)(r:b6):aC:=.a (.q [lP r.b,.p r.c]) [aE l r.a]
def axh:FuncId->aq:=aL [(82,LY),(83,LZ),(86,L0),(84,Uy)]
def axi(l a):(aI (ay an axh Ri aK) false f46 [.e 0 0] [aE l a]).D=((letI ai:=jo l (a+1+1);letI ak:aa:=.q [.u [.h [],.w,ah 0,.w,ah 0],.p false];af.c (br l a &&decide ((0:Int)<3)) (.c (bG l a 3 [102,117,110,99]) (.c (br l (a+1)) (.c (nT l (a+1)) (.c (br l (a+1+1)) (.c (!ai.c) (al ak [aE l ai.a]) (.c (br l ai.a) (.c (uM l ai.a) (al (.q [.u [.h (da l (a+1)),.d 101 ai.b.U,ah (mV (da l ai.a)),.w,ah 0],.p true]) [aE l (ai.a+1)]) (al (.q [.u [.h (da l (a+1)),.d 101 ai.b.U,ah 0,.w,ah 0],.p true]) [aE l ai.a])) .d)) .d) (al ak [aE l (a+1)])) .d) (al ak [aE l a])) .d):af aC).D:=ae
def GU{x y}{rs:Int}{b:Bool}(hx:nK x (.d 101 ps))(hy:nK y (.d 97 bo)):dO (.g (.a (.q [.u [.h nm,x,.c .i64 rs,y,.c .i64 0],.p b]) [aE l a])) (afa l ⟨b,aG nm ps rs bo 0,a,0,0⟩):=
 .nL (.a _ (.U (.I (.V (.D _ (.I hx (.D _ (.I hy (.D _ .U)))))) (.D _ .U))))
def axj(h:br l a=true):(br l a &&decide ((0:Int)<3))=true:=by rw[h];rfl
def axk:aH 46 Uz:=pX (aA ae6 (aA ae7 (aA ae9 (aA axg aQ)))) aw3 λp q r h=>by
 unfold Uz at h;split at h
 ·rename_i l a;obtain⟨h1,h2⟩:=aO h;cases h2;show dO _ (afa l (jZ l a));refine .V (axi l a) (.D (axj h1) (.I (λh3=> ?_) λ_=>GU (.D _) (.D _)));have o1:=eK h1 (cU h3);refine .D o1 (.I (λh4=> ?_) λ_=>GU (.D _) (.D _));have o2:=eK o1 (yL h4);have g:=ae' o2;refine .D o2 (.I (λ_=>GU (.D _) (.D _)) λh5=> ?_);have o3:=kQ h1 (show 0<=(jo l (a+1+1)).a by have:=dy.1 o2;omega) g.2;exact .D o3 (.I (λ_=>GU (.I _) (.D _)) λ_=>GU (.I _) (.D _))
 ·cases h
def afb(h:br l a=true):a<=(jZ l a).a/\(jZ l a).a<=(l.length:Int)/\((jZ l a).c=true->a<(jZ l a).a):=by
 have h0:=dy.1 h;unfold jZ;cases h3:bG l a 3 [102,117,110,99]with
 |false=>exact⟨j1 _,h0.2.1,λh=>(by cases h)⟩
 |true=>
  have o1:=eK h (cU h3);have g1:=cU h3;cases h4:nT l (a+1)with
  |false=>exact⟨(by show a<=a+1;omega),(by show a+1<=_;omega),λh=>(by cases h)⟩
  |true=>
   have o2:=eK o1 (yL h4);have g:=ae' o2;cases h5:(jo l (a+1+1)).c with
   |false=>exact⟨(by show a<=(jo l (a+1+1)).a;omega),g.2,λh=>(by cases h)⟩
   |true=>
    cases h6:uM l (jo l (a+1+1)).a with
    |false=>exact⟨(by show a<=(jo l (a+1+1)).a;omega),g.2,λ_=>(by show a<(jo l (a+1+1)).a;omega)⟩
    |true=>have:=ae8 h6;exact⟨(by show a<=(jo l (a+1+1)).a+1;omega),(by show(jo l (a+1+1)).a+1<=_;omega),λ_=>(by show a<(jo l (a+1+1)).a+1;omega)⟩
def ic(f:List aa->Int->List aa×Int):List aa->Int->List aa×Int
 | [],n=>([],n)
 |s::r,n=>(dL (dp s) n (eI s) (iD s) (jJ s) (dG s) (f (aP s) (n+1)).1 (f (bf s) (f (aP s) (n+1)).2).1::(ic f r (f (bf s) (f (aP s) (n+1)).2).2).1,(ic f r (f (bf s) (f (aP s) (n+1)).2).2).2)
def bQ:Nat->List aa->Int->List aa×Int
 |0,_,n=>([],n)
 |m+1,l,n=>ic (bQ m) l n
def UA{f:List aa->Int->List aa×Int}(hf:∀l n,n<=(f l n).2):∀(l:List aa)(n:Int),n<=(ic f l n).2
 | [],n=>j1 _
 |s::r,n=>by have h1:=hf (aP s) (n+1);have h2:=hf (bf s) (f (aP s) (n+1)).2;have h3:=UA hf r (f (bf s) (f (aP s) (n+1)).2).2;rw[ic];show n<=(ic f r (f (bf s) (f (aP s) (n+1)).2).2).2;omega
def GV:∀(m:Nat)(l:List aa)(n:Int),n<=(bQ m l n).2
 |0,_,n=>j1 _
 |m+1,l,n=>UA (GV m) l n
def afc{f:List aa->Int->List aa×Int}(hf:∀l n,n<=(f l n).2):∀(l:List aa)(n:Int),n+l.length<=(ic f l n).2
 | [],n=>by simp[ic]
 |s::r,n=>by have h1:=hf (aP s) (n+1);have h2:=hf (bf s) (f (aP s) (n+1)).2;have h3:=afc hf r (f (bf s) (f (aP s) (n+1)).2).2;rw[ic,eM];show _<=(ic f r (f (bf s) (f (aP s) (n+1)).2).2).2;omega
section
variable{w w':World}{O O':Nat->Prop}
def afd{fn:Func}{tmps}(h:fn.results= #[]):(results fn tmps).run P w=.ok (.tuple #[]) w:=by simp[results,h]
def L5(w:World)(O:Nat->Prop)(D:List Nat->List aa->Value->Prop)(b off:Nat)(B:List Nat)(v:aa):Prop:=
 ∃(B1 B2:List Nat)(c0 c1 c2 c3 c4 c5 x y:Value),B=B1++B2/\dH w b off [c0,c1,c2,c3,c4,c5,x,y]/\aF aJ w O [.c .i64 (dp v),.c .i64 (bZ v),.h (eI v),.c .i64 (iD v),.h (jJ v),.d 177 (dG v)] bh [c0,c1,c2,c3,c4,c5]/\D B1 (aP v) x/\D B2 (bf v) y/\dV v=v
def kj(w:World)(O:Nat->Prop)(D:List Nat->List aa->Value->Prop)(b:Nat):Nat->List Nat->List aa->Prop
 |_,B,[]=>B=[]
 |off,B,v::r=>∃B1 B2,B=B1++B2/\L5 w O D b off B1 v/\kj w O D b (off+8) B2 r
def iX(w:World)(O:Nat->Prop):Nat->List Nat->List aa->Value->Prop
 |0,B,l,x=>B=[]/\l=[]/\∃a c,x=.slice a 0 c
 |m+1,B,l,x=>(B=[]/\l=[]/\∃a c,x=.slice a 0 c)\/∃b off cap arr B',B=b::B'/\l≠ []/\x=.slice (some ⟨b,off,none⟩) l.length cap/\l.length<=cap/\w.heap[b]? =some (.cells arr 97 (0,0))/\off+l.length*8<=arr.size/\kj w O (iX w O m) b off B' l
def L5.I{D D':List Nat->List aa->Value->Prop}(hD:∀B' l x,(∀c∈B',c∈B)->D B' l x->D' B' l x)(hl:∀j,j<8->w'.cell? ⟨b,off+j,none⟩=w.cell? ⟨b,off+j,none⟩)(hk:cz w w' O O')(h:L5 w O D b off B v):L5 w' O' D' b off B v:=by obtain⟨B1,B2,c0,c1,c2,c3,c4,c5,x,y,rfl,h1,h2,h3,h4,h5⟩:=h;refine⟨B1,B2,c0,c1,c2,c3,c4,c5,x,y,rfl,λj u hj=> ?_,aF.D hk _ _ _ _ (λ_ _ h=>h) h2,hD _ _ _ (λc hc=>M_ _ hc) h3,hD _ _ _ (λc hc=>X1 _ hc) h4,h5⟩;have cC:j<8:=(List.getElem?_eq_some_iff.1 hj).1;rw[hl j cC];exact h1 j u hj
def kj.I{D D':List Nat->List aa->Value->Prop}{b:Nat}:∀{l:List aa}{off:Nat}{B:List Nat},(∀B' l x,(∀c∈B',c∈B)->D B' l x->D' B' l x)->(∀j,off<=j->j<off+l.length*8->w'.cell? ⟨b,j,none⟩=w.cell? ⟨b,j,none⟩)->cz w w' O O'->kj w O D b off B l->kj w' O' D' b off B l
 | [],_,_,_,_,_,h=>h
 |v::r,off,B,hD,hl,hk,h=>by obtain⟨B1,B2,rfl,h1,h2⟩:=h;rw[eM]at hl;exact⟨B1,B2,rfl,h1.I (λB' l x hB=>hD B' l x λc hc=>M_ _ (hB c hc)) (λj hj=>hl _ ab ab) hk,kj.I (λB' l x hB=>hD B' l x λc hc=>X1 _ (hB c hc)) (λj h3 h4=>hl j ab ab) hk h2⟩
def L6{j:Nat}(h:w'.heap[b]? =w.heap[b]?):w'.cell? ⟨b,j,none⟩=w.cell? ⟨b,j,none⟩:=World.cell?_of_block h
def iX.D:∀{m:Nat}{B:List Nat}{l:List aa}{x:Value},(∀c∈B,w'.heap[c]? =w.heap[c]?)->cz w w' O O'->iX w O m B l x->iX w' O' m B l x
 |0,_,_,_,_,_,h=>h
 |m+1,B,l,x,hB,hk,h=>by
  rcases h with h | ⟨b,off,cap,arr,B',rfl,h1,h2,h3,h4,h5,h6⟩
  ·exact .inl h
  ·exact .inr ⟨b,off,cap,arr,B',rfl,h1,h2,h3,(hB b aB).trans h4,h5,kj.I (λB2 l x hc hd=>iX.D (λc dw=>hB c (by simp[hc c dw])) hk hd) (λj _ _=>L6 (hB b aB)) hk h6⟩
def kj.V{D:List Nat->List aa->Value->Prop}{b:Nat}(hD:∀B l x,D B l x->∀c∈B,c<w.heap.size):∀{l:List aa}{off:Nat}{B:List Nat},kj w O D b off B l->∀c∈B,c<w.heap.size
 | [],_,B,h=>by obtain rfl:B=[]:=h;simp
 |v::r,off,B,h=>by
  obtain⟨B1,B2,rfl,⟨B3,B4,_,_,_,_,_,_,_,_,rfl,_,_,h3,h4,_⟩,h2⟩:=h;intro c hc;simp only[xh]at hc;rcases hc with(hc |hc) |hc
  ·exact hD _ _ _ h3 c hc
  ·exact hD _ _ _ h4 c hc
  ·exact kj.V hD h2 c hc
def iX.I:∀{m:Nat}{B:List Nat}{l:List aa}{x:Value},iX w O m B l x->∀c∈B,c<w.heap.size
 |0,B,l,x,h=>by obtain⟨rfl,_⟩:=h;simp
 |m+1,B,l,x,h=>by
  rcases h with⟨rfl,_⟩ | ⟨b,off,cap,arr,B',rfl,h1,h2,h3,h4,h5,h6⟩
  ·simp
  ·intro c hc;rcases List.mem_cons.1 hc with rfl |hc
   ·exact(Array.getElem?_eq_some_iff.1 h4).1
   ·exact kj.V (λ_ _ _ hd=>iX.I hd) h6 c hc
def kj.U{D:List Nat->List aa->Value->Prop}{b:Nat}:∀{p r:List aa}{off:Nat}{B:List Nat},kj w O D b off B (p++r)↔∃B1 B2,B=B1++B2/\kj w O D b off B1 p/\kj w O D b (off+p.length*8) B2 r
 | [],r,off,B=>by
  constructor
  ·intro h;exact⟨[],B,rfl,rfl,by simpa using h⟩
  ·rintro⟨B1,B2,rfl,h1,h2⟩;obtain rfl:B1=[]:=h1;simpa using h2
 |v::p,r,off,B=>by
  constructor
  ·rintro⟨B1,B2,rfl,h1,h2⟩;obtain⟨B3,B4,rfl,h3,h4⟩:=kj.U.1 h2;refine⟨B1++B3,B4,aB,⟨B1,B3,rfl,h1,h3⟩,?_⟩;rw[eM,show off+(p.length+1)*8=off+8+p.length*8 from ab];exact h4
  ·rintro⟨B0,B4,rfl,⟨B1,B3,rfl,h1,h3⟩,h4⟩;rw[eM,show off+(p.length+1)*8=off+8+p.length*8 from ab]at h4;exact⟨B1,B3++B4,aB,h1,kj.U.2 ⟨B3,B4,rfl,h3,h4⟩⟩
structure cw(S:Nat->Prop)(w w':World):Prop where
 f:w'.os=w.os
 i:w'.tape=w.tape
 j:w'.output=w.output
 d:w.heap.size<=w'.heap.size
 a:∀c,c<w.heap.size->¬S c->w'.heap[c]? =w.heap[c]?
def cw.V:cw S w w:=⟨rfl,rfl,rfl,bj _,λ_ _ _=>rfl⟩
def cw.D{w2}(h:cw S w w')(g:cw S w' w2):cw S w w2:=⟨g.f.trans h.f,g.i.trans h.i,g.j.trans h.j,eb h.d g.d,λc hc hs=>(g.a c (dJ hc h.d) hs).trans (h.a c hc hs)⟩
def cw.I{S'}(h:cw S w w')(hs:∀c,S c->S' c):cw S' w w':=⟨h.f,h.i,h.j,h.d,λc hc hn=>h.a c hc λx=>hn (hs c x)⟩
def cw.UB(h:cw S w w')(hs:∀c,S c->O c):cz w w' O O:=⟨h.d,λc hc hO=>h.a c hc λx=>hO (hs c x),λ_ _ h=>h⟩
def sY(h:yk w b q u w'):cw (· =b) w w':=⟨h.g,h.h,h.i,Nat.le_of_eq h.a.symm,λc _ hc=>h.f c hc⟩
def mY{o:Obj}(h:w.heap[b]? =some o):b<w.heap.size:=(Array.getElem?_eq_some_iff.1 h).1
end
def pE(w:World)(b:Nat)(n:Int):Prop:=∃arr e,w.heap[b]? =some (.cells arr e (0,0))/\arr.toList[0]? =some (.int .i64 n)
def pE.D(h:pE w b n):w.cell? ⟨b,0,none⟩=some (.int .i64 n):=by obtain⟨arr,e,h1,h2⟩:=h;simpa[World.cell?,h1] using h2
def pE.I(h:pE w b n)(hb:w'.heap[b]? =w.heap[b]?):pE w' b n:=by obtain⟨arr,e,h1,h2⟩:=h;exact⟨arr,e,hb.trans h1,h2⟩
noncomputable def qw(k:Nat):Array Oper:=(rp k (f38.body.getD .skip)).getD #[]
def afe:f38.body=some (.seq (.region 0 (qw 0) false) (.region 1 (qw 1) false)):=ae
def axl:∀args w,(callFunc 38 args).run prog w=.ok (.enter 38 args) w:=qh func38 ae afe
def axm:f38.ntmps=9:=ae
def yU(k j:Nat):Oper:=((qw k)[j]?).getD default
def axn:=aM qw yU 0 0 (.move (.tmp 0)) (some 3)
def axo:=aM qw yU 0 1 (.load 3 (.tmp 1)) (some 4)
def axp:=aM qw yU 0 2 (.nilCheck (.tmp 3)) (some 5)
def axq:=aM qw yU 0 3 (.fieldAddr 97 (.tmp 5) 1) (some 6)
def axr:=aM qw yU 0 4 (.store 3 (.tmp 6) (.tmp 4)) (none)
def axs:=aM qw yU 1 0 (.load 3 (.tmp 1)) (some 7)
def axt:=aM qw yU 1 1 (.binOp .add 3 (.tmp 7) (.const (.int .i64 1)) 3) (some 8)
def axu:=aM qw yU 1 2 (.store 3 (.tmp 1) (.tmp 8)) (none)
def axv:List.range (qw 0).size=[0,1,2,3,4]:=ae
def axw:List.range (qw 1).size=[0,1,2]:=ae
def axx:f38.results= #[]:=ae
def axy{nb:Nat}{arr}(hb:w.heap[b]? =some (.cells arr 97 (0,0)))(hq:q+1<arr.size)(hn:pE w nb n)(bL:nb≠b)(h0:0<=n)(h1:n<9223372036854775807):
  CallsIn Fence.wide k prog 38 #[.pointer (some ⟨b,q,none⟩),.pointer (some ⟨nb,0,none⟩)] w λe w'=>(∃v,e=.returned v)/\cw (λc=>c=b\/c=nb) w w'/\w'.heap.size=w.heap.size/\w'.heap[b]? =some (.cells (arr.toList.set (q+1) (.int .i64 n)).toArray 97 (0,0))/\pE w' nb (n+1):=by
 refine BC func38 afe trivial ?_;rw[axm];have s0:bM 9 [(0,.pointer (some ⟨b,q,none⟩)),(1,.pointer (some ⟨nb,0,none⟩))] _:=FX (vs:=[.pointer (some ⟨b,q,none⟩),.pointer (some ⟨nb,0,none⟩)]) aB;refine b8 (cT ?_);rw[axv];refine df axn s0 av rfl λa1 s1=>sK aW axo s1 av rfl rfl rfl (u:=.int .i64 n) hn.D λa2 s2=>an' axp s2 av rfl λa3 s3=>CY aW axq s3 av rfl rfl rfl λa4 s4=>ui aW axr s4 rfl rfl rfl rfl rfl rfl hb hq λw1 p1=> ?_;show Code.wpIn Fence.wide k prog _ _ a4 w1;refine cT ?_;rw[axw];have o6:=hn.I (p1.f nb bL);obtain⟨arn,en,oh,IP⟩:=o6;refine sK aW axs s4 av rfl rfl rfl (u:=.int .i64 n) (pE.D ⟨arn,en,oh,IP⟩) λa5 s5=>yl axt s5 av rfl rfl λa6 s6=>ui aW axu s6 rfl rfl rfl rfl rfl rfl oh (by have:=(List.getElem?_eq_some_iff.1 IP).1;simpa using this) λw2 p2=> ?_;refine⟨s6.f,.tuple #[],?_,⟨_,rfl⟩,((sY p1).I λc h=>.inl h).D ((sY p2).I λc h=>.inr h),p2.a.trans p1.a,(p2.f b (lY bL)).trans (p1.d hb),?_⟩
 ·rw[afd axx]
 ·refine⟨_,_,p2.d oh,?_⟩;have:=(List.getElem?_eq_some_iff.1 IP).1;rw[ep ab ab];simp at this;simp[this]
noncomputable def eE(k:Nat):Array Oper:=(rp k (f37.body.getD .skip)).getD #[]
def aff:f37.body=some (.seq (.region 0 (eE 0) false) (.block 0 (.loop (.seq (.region 1 (eE 1) false) (.seq (.cond (.tmp 8) .skip (.exit 0)) (.seq (.block 1 (.seq (.region 2 (eE 2) false) (.seq (.region 3 (eE 3) false) (.seq (.region 4 (eE 4) false) (.region 5 (eE 5) false))))) (.region 6 (eE 6) false))))))):=ae
def UC:∀args w,(callFunc 37 args).run prog w=.ok (.enter 37 args) w:=qh func37 ae aff
def axz:f37.ntmps=30:=ae
def iG(k j:Nat):Oper:=((eE k)[j]?).getD default
def axA:=aM eE iG 0 0 (.move (.tmp 0)) (some 5)
def axB:=aM eE iG 0 1 (.call ⟨.builtin .len,#[.tmp 5],#[41]⟩) (some 6)
def axC:=aM eE iG 0 2 (.move (.const (.int .i64 0))) (some 7)
def axD:=aM eE iG 1 0 (.binOp .lss 3 (.tmp 7) (.tmp 6) 3) (some 8)
def axE:=aM eE iG 2 0 (.move (.tmp 7)) (some 9)
def axF:=aM eE iG 2 1 (.assign (.tmp 9)) (some 4)
def axG:=aM eE iG 3 0 (.move (.tmp 1)) (some 10)
def axH:=aM eE iG 3 1 (.move (.tmp 0)) (some 11)
def axI:=aM eE iG 3 2 (.move (.tmp 4)) (some 12)
def axJ:=aM eE iG 3 3 (.indexAddr 41 (.tmp 11) (.tmp 12)) (some 13)
def axK:=aM eE iG 3 4 (.call ⟨.value (.tmp 10),#[.tmp 13],#[94]⟩) (some 14)
def axL:=aM eE iG 4 0 (.move (.tmp 0)) (some 15)
def axM:=aM eE iG 4 1 (.move (.tmp 4)) (some 16)
def axN:=aM eE iG 4 2 (.indexAddr 41 (.tmp 15) (.tmp 16)) (some 17)
def axO:=aM eE iG 4 3 (.fieldAddr 97 (.tmp 17) 6) (some 18)
def axP:=aM eE iG 4 4 (.load 41 (.tmp 18)) (some 19)
def axQ:=aM eE iG 4 5 (.move (.tmp 1)) (some 20)
def axR:=aM eE iG 4 6 (.call ⟨.value (.func 37),#[.tmp 19,.tmp 20],#[41,98]⟩) (some 21)
def axS:=aM eE iG 5 0 (.move (.tmp 0)) (some 22)
def axT:=aM eE iG 5 1 (.move (.tmp 4)) (some 23)
def axU:=aM eE iG 5 2 (.indexAddr 41 (.tmp 22) (.tmp 23)) (some 24)
def axV:=aM eE iG 5 3 (.fieldAddr 97 (.tmp 24) 7) (some 25)
def axW:=aM eE iG 5 4 (.load 41 (.tmp 25)) (some 26)
def axX:=aM eE iG 5 5 (.move (.tmp 1)) (some 27)
def axY:=aM eE iG 5 6 (.call ⟨.value (.func 37),#[.tmp 26,.tmp 27],#[41,98]⟩) (some 28)
def axZ:=aM eE iG 6 0 (.binOp .add 3 (.tmp 7) (.const (.int .i64 1)) 3) (some 29)
def ax0:=aM eE iG 6 1 (.move (.tmp 29)) (some 7)
def ax1:List.range (eE 0).size=[0,1,2]:=ae
def ax2:List.range (eE 1).size=[0]:=ae
def ax3:List.range (eE 2).size=[0,1]:=ae
def ax4:List.range (eE 3).size=[0,1,2,3,4]:=ae
def ax5:List.range (eE 4).size=[0,1,2,3,4,5,6]:=ae
def ax6:List.range (eE 5).size=[0,1,2,3,4,5,6]:=ae
def ax7:List.range (eE 6).size=[0,1]:=ae
def ax8:f37.results= #[]:=ae
def wL(nb:Nat):Value:=.func (.func 38) #[] #[.pointer (some ⟨nb,0,none⟩)]
def afg(m:Nat):Prop:=∀(B:List Nat)(l:List aa)(x:Value)(O:Nat->Prop)(nb:Nat)(w:World)(n:Int)(k:Nat),iX w O m B l x->B.Nodup->nb∉B->(∀b∈B,O b)->O nb->pE w nb n->0<=n->(bQ m l n).2<=9223372036854775807->
 CallsIn Fence.wide k prog 37 #[x,wL nb] w λe w'=>(∃v,e=.returned v)/\cw (λc=>c∈B\/c=nb) w w'/\iX w' O m B (bQ m l n).1 x/\pE w' nb (bQ m l n).2
structure ax9(m:Nat)(B:List Nat)(O:Nat->Prop)(x:Value)(nb L:Nat)(T1:List aa)(T2:Int)(w0:World)(i:Nat)(a:Act)(w:World):Prop where
 b:∃(done r:List aa)(nn:Int),done.length=L-i/\r.length=i/\i<=L/\T1=done++(ic (bQ m) r nn).1/\T2=(ic (bQ m) r nn).2/\iX w O (m+1) B (done++r) x/\pE w nb nn/\0<=nn
 d:bM 30 [(0,x),(1,wL nb),(6,.int .i64 L),(7,.int .i64 ((L-i:Nat):Int))] a
 e:cw (λc=>c∈B\/c=nb) w0 w
def afh:∀{m:Nat}{B:List Nat}{l:List aa}{x:Value},iX w O m B l x->∃ad cap,x=.slice ad l.length cap
 |0,B,l,x,h=>by obtain⟨_,rfl,a,c,rfl⟩:=h;exact⟨a,c,rfl⟩
 |m+1,B,l,x,h=>by
  rcases h with⟨_,rfl,a,c,rfl⟩ | ⟨b,off,cap,arr,B',rfl,h1,rfl,_⟩
  ·exact⟨a,c,rfl⟩
  ·exact⟨_,_,rfl⟩
def afi{nb:Nat}(k:Nat)(ih:l≠ []->afg m)(hd:iX w O (m+1) B l x)(cP:B.Nodup)(E2:nb∉B)(xI:∀b∈B,O b)(hO:O nb)(hn:pE w nb n)(h0:0<=n)(nq:(bQ (m+1) l n).2<=9223372036854775807):
  CallsIn Fence.wide k prog 37 #[x,wL nb] w λe w'=>(∃v,e=.returned v)/\cw (λc=>c∈B\/c=nb) w w'/\iX w' O (m+1) B (bQ (m+1) l n).1 x/\pE w' nb (bQ (m+1) l n).2:=by
 refine BC func37 aff trivial ?_;rw[axz];obtain⟨ad,cap,hx⟩:=afh hd;have hL:l.length<=9223372036854775807:=by have:n+l.length<=(bQ (m+1) l n).2:=afc (GV m) l n;omega
 have s0:bM 30 [(0,x),(1,wL nb)] _:=FX (vs:=[x,wL nb]) aB;refine b8 (cT ?_);rw[ax1];refine df axA s0 av rfl λa1 s1=>Ag aW axB s1 av rfl (by rw[hx];rfl) λa2 s2=>df axC s2 av rfl λa3 s3=> ?_;show Code.wpIn Fence.wide k prog _ _ a3 w;refine lx (uc (ax9 m B O x nb l.length (bQ (m+1) l n).1 (bQ (m+1) l n).2 w) id l.length ⟨⟨[],l,n,aB,rfl,bj _,rfl,rfl,hd,hn,h0⟩,?_,cw.V⟩ ?_)
 ·rw[ni];exact s3.D rfl (s3.D rfl (s3.D rfl (s3.D rfl s3.V)))
 intro i a w1 hI;obtain⟨⟨done,r,nn,e1,e2,e3,akq,akr,NW,pc,jz⟩,hs,gW⟩:=hI;refine b8 (cT ?_);rw[ax2];refine CZ axD hs av rfl rfl λa4 s4=> ?_;cases i with
 |zero=>
  obtain rfl:=List.length_eq_zero_iff.1 e2;have h8:a4.eval (.tmp 8)=.bool false:=by rw[s4.I (x:=.tmp 8) rfl];exact dh Value.bool (ly ab)
  refine b8 (fY (t:=false) h8 (qL ?_));show a4.defers=[]/\∃v,(results f37 a4.tmps).run prog w1=.ok v w1/\_;refine⟨s4.f,_,afd ax8,⟨_,rfl⟩,gW,?_,?_⟩
  ·rw[akq];exact NW
  ·rw[akr];exact pc
 |succ i=>
  obtain⟨s,r,rfl⟩:∃s q,r=s::q:=by
   cases r with
   |nil=>cases e2
   |cons s q=>exact⟨s,q,rfl⟩
  have h8:a4.eval (.tmp 8)=.bool true:=by rw[s4.I (x:=.tmp 8) rfl];exact dh Value.bool (aD ab)
  have IQ:l≠ []:=λe=>by subst e;simp at e3
  refine b8 (fY (t:=true) h8 (nj ?_));refine b8 (lx (b8 (cT ?_)));rw[ax3];refine df axE s4 av rfl λa5 s5=>iT axF s5 av rfl λa6 s6=> ?_;show Code.wpIn Fence.wide k prog _ _ a6 w1;rcases NW with⟨_,e,_⟩ | ⟨b,off,pV,arr,B',rfl,_,cL,fQ,hb,bE,zD⟩
  ·exact absurd e aB
  have hlen:(done++s::r).length=l.length:=by simp at e2⊢;omega
  rw[hlen]at cL fQ bE;obtain⟨Bd,Br,rfl,aLU,Bs,Bq,rfl,bg,heq⟩:=kj.U.1 zD;obtain⟨q,hq⟩:∃q,q=off+done.length*8:=⟨_,rfl⟩
  rw[<-hq]at bg heq;obtain⟨B1,B2,c0,c1,c2,c3,c4,c5,xb,xe,rfl,zH,eo,NJ,aLV,vk⟩:=bg;have zI:((l.length- (i+1):Nat):Int).toNat=done.length:=by rw[dE,e1]
  have Cg:done.length<l.length:=ab;have aNa:q+8<=arr.size:=ab;have cC:=iX.I (m:=m+1) (l:=done++s::r) (x:=x) (O:=O) (w:=w1) (.inr ⟨b,off,pV,arr,_,rfl,aB,by rw[hlen];exact cL,ab,hb,by rw[hlen];exact bE,zD⟩);simp only[tB,xh,Ev,not_or]at cP;obtain⟨⟨tL,⟨o8,eT⟩,E3⟩,Y7,⟨⟨o6,oh,aks⟩,aNb,akt⟩,aku⟩:=cP;simp only[jc,xh,not_or]at E2;obtain⟨Y8,aLW,⟨akv,akw⟩,aLX⟩:=E2;have hbound:(bQ m (aP s) (nn+1)).2<=(bQ m (bf s) (bQ m (aP s) (nn+1)).2).2/\(bQ m (bf s) (bQ m (aP s) (nn+1)).2).2<=9223372036854775807:=by refine⟨GV _ _ _,?_⟩;have h1:=UA (GV m) r (bQ m (bf s) (bQ m (aP s) (nn+1)).2).2;have h2:(ic (bQ m) (s::r) nn).2=(ic (bQ m) r (bQ m (bf s) (bQ m (aP s) (nn+1)).2).2).2:=rfl;omega
  have aNc:=GV m (aP s) (nn+1);refine b8 (cT ?_);rw[ax4];refine df axG s6 av rfl λa7 s7=>df axH s7 av rfl λa8 s8=>df axI s8 av rfl λa9 s9=>ru aW axJ s9 av rfl rfl (dh some cL) rfl ab ab λa10 s10=> ?_;rw[zI,show off+done.length*(aJ 97).a=q from hq.symm]at s10;refine aoa axK s10 rfl axl (vs:= #[.pointer (some ⟨b,q,none⟩)]) (by simp[s10.I (x:=.tmp 13) rfl]) (axy hb ab pc Y8 jz ab) λe w2 ⟨⟨v,hv⟩,h12,qP,N4,aLY⟩=>⟨v,hv,?_⟩
  have s11:=s10.U (d:=14) av v;obtain⟨a11,aLZ⟩:∃a',a'=a10.put (some 14) v:=⟨_,rfl⟩
  rw[<-aLZ]at s11⊢;show Code.wpIn Fence.wide k prog _ _ a11 w2;have Y9:∀c,c∈B1->c≠b/\c≠nb:=λc hc=>⟨λe=>o8 (e▸hc),λe=>akv (e▸hc)⟩
  have akx:∀c,c∈B2->c≠b/\c≠nb:=λc hc=>⟨λe=>eT (e▸hc),λe=>akw (e▸hc)⟩
  have k12:cz w1 w2 O O:=h12.UB λc hc=>by rcases hc with rfl |rfl;exact xI _ aB;exact hO
  have lt1:∀c∈B1,c<w1.heap.size:=λc hc=>cC c (by simp[hc]);have lt2:∀c∈B2,c<w1.heap.size:=λc hc=>cC c (by simp[hc]);have aL0:iX w2 O m B1 (aP s) xb:=NJ.D (λc hc=>h12.a c (lt1 c hc) λh=>by rcases h with h |h;exact(Y9 c hc).1 h;exact(Y9 c hc).2 h) k12;have aky:∀j u,j<8->[c0,.int .i64 nn,c2,c3,c4,c5,xb,xe][j]? =some u->w2.cell? ⟨b,q+j,none⟩=some u:=by
   intro j u hj hu;have h1:w2.cell? ⟨b,q+j,none⟩=(arr.toList.set (q+1) (.int .i64 nn))[q+j]? :=by simp[World.cell?,N4]
   have h2:∀i v,[c0,c1,c2,c3,c4,c5,xb,xe][i]? =some v->arr.toList[q+i]? =some v:=λi v hv=>by have:=zH i v hv;simpa[World.cell?,hb] using this
   rw[h1,By];by_cases akz:q+1=q+j
   ·obtain rfl:j=1:=ab;rw[if_pos rfl,if_pos (by simp;omega)];exact hu
   ·rw[if_neg akz];have nr:j≠1:=λe=>akz (by rw[e]);refine h2 j u ?_;match j,nr,hu with
    |0,_,hu=>exact hu
    |1,h,_=>exact absurd rfl h
    |j+2,_,hu=>exact hu
  refine b8 (cT ?_);rw[ax5];refine df axL s11 av rfl λa12 s12=>df axM s12 av rfl λa13 s13=>ru aW axN s13 av rfl rfl (dh some cL) rfl ab ab λa14 s14=> ?_;rw[zI,show off+done.length*(aJ 97).a=q from hq.symm]at s14;refine CY aW axO s14 av rfl rfl rfl λa15 s15=>sK aW axP s15 av rfl rfl rfl (u:=xb) (aky 6 xb av rfl) λa16 s16=>df axQ s16 av rfl λa17 s17=> ?_;refine oG axR s17 UC (vs:=[xb,wL nb]) (by simp[s17.I (x:=.tmp 19) rfl,s17.I (x:=.tmp 20) rfl]) (ih IQ B1 (aP s) xb O nb w2 (nn+1) (k-1) aL0 o6 akv (λc hc=>xI c (by simp[hc])) hO aLY ab ab) λe w3 ⟨⟨v3,Y_⟩,h23,vC,IP⟩=>⟨v3,Y_,?_⟩
  have s18:=s17.U (d:=21) av v3;obtain⟨a18,aL1⟩:∃a',a'=a17.put (some 21) v3:=⟨_,rfl⟩
  rw[<-aL1]at s18⊢;show Code.wpIn Fence.wide k prog _ _ a18 w3;have aL2:=mY N4;have vA:=(h23.a b aL2 λh=>by rcases h with h |h;exact o8 h;exact Y8 h.symm).trans N4;have akA:∀j u,j<8->[c0,.int .i64 nn,c2,c3,c4,c5,xb,xe][j]? =some u->w3.cell? ⟨b,q+j,none⟩=some u:=λj u hj hu=>(L6 (vA.trans N4.symm)).trans (aky j u hj hu);have k23:cz w2 w3 O O:=h23.UB λc hc=>by rcases hc with hc |rfl;exact xI _ (by simp[hc]);exact hO
  have akB:∀c,c<w1.heap.size->c≠b->c≠nb->c∉B1->w3.heap[c]? =w1.heap[c]? :=λc hc g1 g2 g3=>(h23.a c ab λh=>by rcases h with h |h;exact g3 h;exact g2 h).trans (h12.a c hc λh=>by rcases h with h |h;exact g1 h;exact g2 h);have k13:cz w1 w3 O O:=⟨by have:=h12.d;have:=h23.d;omega,λc hc dw=>(k23.a c ab dw).trans (k12.a c hc dw),λ_ _ h=>h⟩
  have aL3:iX w3 O m B2 (bf s) xe:=aLV.D (λc hc=>akB c (lt2 c hc) (akx c hc).1 (akx c hc).2 λh=>aks c h c hc rfl) k13;refine cT ?_;rw[ax6];refine df axS s18 av rfl λa19 s19=>df axT s19 av rfl λa20 s20=>ru aW axU s20 av rfl rfl (dh some cL) rfl ab ab λa21 s21=> ?_;rw[zI,show off+done.length*(aJ 97).a=q from hq.symm]at s21;refine CY aW axV s21 av rfl rfl rfl λa22 s22=>sK aW axW s22 av rfl rfl rfl (u:=xe) (akA 7 xe av rfl) λa23 s23=>df axX s23 av rfl λa24 s24=> ?_;refine oG axY s24 UC (vs:=[xe,wL nb]) (by simp[s24.I (x:=.tmp 26) rfl,s24.I (x:=.tmp 27) rfl]) (ih IQ B2 (bf s) xe O nb w3 (bQ m (aP s) (nn+1)).2 (k-1) aL3 oh akw (λc hc=>xI c (by simp[hc])) hO IP ab ab) λe w4 ⟨⟨v4,aL4⟩,h34,aL5,Y'⟩=>⟨v4,aL4,?_⟩
  have s25:=s24.U (d:=28) av v4;obtain⟨a25,aL6⟩:∃a',a'=a24.put (some 28) v4:=⟨_,rfl⟩
  rw[<-aL6]at s25⊢;show Code.wpIn Fence.wide k prog _ _ a25 w4;have Za:=(h34.a b (mY vA) λh=>by rcases h with h |h;exact eT h;exact Y8 h.symm).trans vA;have k34:cz w3 w4 O O:=h34.UB λc hc=>by rcases hc with hc |rfl;exact xI _ (by simp[hc]);exact hO
  have k14:cz w1 w4 O O:=⟨eb k13.c k34.c,λc hc dw=>(k34.a c (dJ hc k13.c) dw).trans (k13.a c hc dw),λ_ _ h=>h⟩
  have akC:∀c,c<w1.heap.size->c≠b->c≠nb->c∉B1->c∉B2->w4.heap[c]? =w1.heap[c]? :=λc hc g1 g2 g3 g4=>(h34.a c (dJ hc k13.c) λh=>by rcases h with h |h;exact g4 h;exact g2 h).trans (akB c hc g1 g2 g3);have akD:∀j,j≠q+1->w4.cell? ⟨b,j,none⟩=w1.cell? ⟨b,j,none⟩:=λj hj=>by
   have h1:w4.cell? ⟨b,j,none⟩=(arr.toList.set (q+1) (.int .i64 nn))[j]? :=by simp[World.cell?,Za]
   rw[h1,vf (lY hj)];simp[World.cell?,hb]
  refine cT ?_;rw[ax7];refine yl axZ s25 av rfl rfl λa26 s26=>df ax0 s26 av rfl λa27 s27=> ?_;refine⟨i,⟨⟨done++ [dL (dp s) nn (eI s) (iD s) (jJ s) (dG s) (bQ m (aP s) (nn+1)).1 (bQ m (bf s) (bQ m (aP s) (nn+1)).2).1],r,(bQ m (bf s) (bQ m (aP s) (nn+1)).2).2,by simp;omega,by simpa using e2,ab,?_,?_,?_,Y',ab⟩,?_,?_⟩,zp i⟩
  ·rw[akq,jb];rfl
  ·rw[akr];rfl
  ·refine .inr ⟨b,off,pV,_,_,rfl,aB,?_,?_,Za,?_,?_⟩
   ·rw[cL];simp at hlen⊢;omega
   ·simp at hlen⊢;omega
   ·simp at hlen⊢;omega
   ·rw[jb done];refine kj.U.2 ⟨Bd,B1++B2++Bq,rfl,?_,B1++B2,Bq,rfl,?_,?_⟩
    ·refine aLU.I (λB' l' x' hB hd=>hd.D (λc hc=>akC c (cC c (by simp[hB c hc])) (λe=>tL (e▸hB c hc)) (λe=>aLW (e▸hB c hc)) (λe=> ?_) (λe=> ?_)) k14) (λj h1 h2=>akD j ab) k14
     ·exact aku c (hB c hc) c (.inl (.inl e)) rfl
     ·exact aku c (hB c hc) c (.inl (.inr e)) rfl
    ·rw[<-hq];refine⟨B1,B2,c0,.int .i64 nn,c2,c3,c4,c5,xb,xe,rfl,λj u hj=>(L6 (Za.trans vA.symm)).trans (akA j u (List.getElem?_eq_some_iff.1 hj).1 hj),?_,?_,aL5,rfl⟩
     ·obtain⟨_,_,e1,g1,_,_,e2,g2,g3⟩:=eo;injection e1 with e1 e1';subst e1 e1';injection e2 with e2 e2';subst e2 e2';exact⟨_,_,rfl,ax.D k14 _ _ _ _ (λ_ _ h=>h) g1,_,_,rfl,rfl,aF.D k14 _ _ _ _ (λ_ _ h=>h) g3⟩
     ·exact vC.D (λc hc=>h34.a c (by have:=k13.c;have:=lt1 c hc;omega) λh=>by rcases h with h |h;exact aks c hc c h rfl;exact(Y9 c hc).2 h) k34
    ·rw[<-hq];refine heq.I (λB' l' x' hB hd=>hd.D (λc hc=>akC c (cC c (by simp[hB c hc])) (λe=>E3 (e▸hB c hc)) (λe=>aLX (e▸hB c hc)) (λe=> ?_) (λe=> ?_)) k14) (λj h1 h2=>akD j ab) k14
     ·exact akt c (.inl e) c (hB c hc) rfl
     ·exact akt c (.inr e) c (hB c hc) rfl
  ·have e:l.length- (i+1)+1=l.length-i:=ab;rw[ep ab ab,show((l.length- (i+1):Nat):Int)+1=((l.length-i:Nat):Int)from ab]at s27;exact s27.D rfl (s27.D rfl (s27.D rfl (s27.D rfl s27.V)))
  ·refine gW.D ((h12.I λc h=> ?_).D ((h23.I λc h=> ?_).D (h34.I λc h=> ?_)))
   ·rcases h with rfl |rfl
    ·exact .inl aB
    ·exact .inr rfl
   ·rcases h with h |rfl
    ·exact .inl (by simp[h])
    ·exact .inr rfl
   ·rcases h with h |rfl
    ·exact .inl (by simp[h])
    ·exact .inr rfl
def afj:∀m,afg m
 |0=>λB l x O nb w n k hd cP E2 xI hO hn h0 nq=>by
  obtain⟨rfl,rfl,h⟩:=hd;exact(afi (m:=0) k (λh=>absurd rfl h) (.inl ⟨rfl,rfl,h⟩) cP E2 xI hO hn h0 nq).mono λe w' ⟨h1,h2,h3,h4⟩=>by
   refine⟨h1,h2,?_,h4⟩;rcases h3 with h3 | ⟨_,_,_,_,_,h5,h6,_⟩
   ·exact h3
   ·exact absurd rfl h6
 |m+1=>λ_ _ _ _ _ _ _ k hd cP E2 xI hO hn h0 nq=>afi k (λ_=>afj m) hd cP E2 xI hO hn h0 nq
def UD(e:TypeId):aq
 | [.d t vs],[]=>.I (Nat.beq t e && !vs.isEmpty &&decide (vs.length<=eU)) (.g (.a (.y e 0 0 vs.length) [.b false 0 e vs]))
 |_,_=>.d
def ax_{f:FuncId}{e:TypeId}(h:ck T G P f (kH e)):ck T G P f (UD e):=by
 intro args ao out cM;unfold UD at cM;split at cM
 ·rename_i t vs;obtain⟨h1,h2⟩:=aO cM;rw[au,au,bC]at h1;cases vs with
  |nil=>exact absurd h1.1.2 aB
  |cons v r=>refine h _ _ out ?_;unfold kH;simp only[h1.1.1];exact aZ (aD h1.2) h2
 ·cases cM
def GW:=aR 69 Rl ae
def uN:AH.dQ:={Rl with b:=false}
def DM:iB prog an 69 uN:=⟨GW.c,GW.b,GW.h,GW.e,GW.a⟩
def mu(m:Nat)(l:List aa):Bool:=decide (l.length<=1000) &&l.all λe=>cW m (bB e) !=0
def A0:Nat->List aa->List aa
 |0,l=>l
 |m+1,l=>l.map λe=>b9 (e.D 0).I (e.D 1).I (e.D 2).I (e.D 3).bJ (A0 m (e.D 4).U)
def GX(m:Nat):aq| [.d 177 l],[]=>.I (mu m l) (.g (.a (.d 177 (A0 m l)) [])) |_,_=>.d
def GY(m:Nat):FuncId->aq:=aL [(110,UD 177),(69,GX m)]
def afk(m l n len i):(cB (ay an (GY m) uN aK) 0 3 (cq uN 0) [.y 177 0 0 n,.y 177 0 0 n,ah len,ah i] [.b false 0 177 l]).D=((letI ai:=Nat.beq 177 177 &&true &&decide (0<=i) &&decide (i<(↑n:Int));letI ak:=l.getD i.toNat .m;af.c (decide (i<len)) (.c ai (.c (mu m (ak.D 4).U) (.c ai (.g ((.b,[.y 177 0 0 n,.y 177 0 0 n,ah len,ah (i64.wrap (i+1))],[.b false 0 177 (l.set i.toNat (b9 (ak.D 0).I (ak.D 1).I (ak.D 2).I (ak.D 3).bJ (A0 m (ak.D 4).U)))]))) .d) .d) .d) (.g ((.a 0,[.y 177 0 0 n],[.b false 0 177 l])))):af (aU×List aa×List aj)).D:=ae
def afl(C):(cB (ay an C uN aK) 0 3 (cq uN 0) [.d 177 [],.d 177 [],ah 0,ah 0] []).D=((af.g ((aU.a (nat_lit 0),[aa.d (nat_lit 177) []],[])))).D:=ae
def wN(m:Nat)(e:aa):aa:=b9 (e.D 0).I (e.D 1).I (e.D 2).I (e.D 3).bJ (A0 m (e.D 4).U)
def UE(m:Nat):dk:=λm_ key vs os=>match vs,os with
 | [.y 177 0 0 n,.y 177 0 0 q,.c .i64 len,.c .i64 0],[.b false 0 177 l]=>.I (Nat.beq q n &&Nat.beq n l.length &&decide (len=(l.length:Int)) &&mu (m+1) l &&Nat.beq m_ 0 &&Nat.beq key 3) (.g (.a 0,[.y 177 0 0 n],[.b false 0 177 (l.map (wN m))]))
 | [.d 177 [],.d 177 [],.c .i64 0,.c .i64 0],[]=>.I (Nat.beq m_ 0 &&Nat.beq key 3) (.g (.a 0,[.d 177 []],[]))
 |_,_=>.d
def UF:FuncId->aq:=aL [(110,kH 177)]
def UG:dk:=λm_ key vs os=>match vs,os with
 | [.d 177 [],.d 177 [],.c .i64 0,.c .i64 0],[]=>.I (Nat.beq m_ 0 &&Nat.beq key 3) (.g (.a 0,[.d 177 []],[]))
 |_,_=>.d
def ax'(u:Unit):(aI (ay an UF uN UG) false f69 [.d 177 []] []).D=((af.g (aC.a (aa.d (nat_lit 177) []) []))).D:=ae
def aya(m l):(aI (ay an (GY m) uN (UE m)) false f69 [.d 177 l] []).D=((af.c (Nat.beq 177 177 && !l.isEmpty &&decide (l.length<=4294967296)) (.c (l.length.beq l.length &&l.length.beq l.length &&decide ((↑l.length:Int)=(↑l.length:Int)) &&mu (m+1) l &&Nat.beq 0 0 &&Nat.beq 3 3) (al (.d 177 (List.map (wN m) l)) []) .d) .d)).D:=ae
def ayb{e}(h:cW (m+1) (bB e)≠0):mu m (e.D 4).U=true:=by
 unfold cW at h;split at h
 ·rename_i hf;have hl:=(Ld hf).1;have hl:(e.D 4).U.length<=2:=hl;unfold mu;rw[aD ab,qJ,dS];intro x hx;have:=Ls _ _ h x hx;rw[bne_iff_ne,bB,Le];exact this
 ·exact absurd rfl h
def afm(m:Nat)(n:Nat)(hn:n<=1000):∀(k i:Nat)(p r:List aa),i+k=n->p.length=i->r.length=k->(∀e∈r,mu m (e.D 4).U=true)->
  bw an (GY m) uN 0 3 [.y 177 0 0 n,.y 177 0 0 n,.c .i64 (n:Int),.c .i64 (i:Int)] [.b false 0 177 (p++r)] (.a 0,[.y 177 0 0 n],[.b false 0 177 (p++r.map (wN m))])
 |0,i,p,r,h1,h2,h3,h4=>by obtain rfl:=List.length_eq_zero_iff.1 h3;refine eB.V DM 0 ae ae cv (afk m (p++ []) n n i) (.sJ (ly ab) (.I ?_ rfl));rfl
 |k+1,i,p,r,h1,h2,h3,h4=>by
  obtain⟨e,r,rfl⟩:∃e q,r=e::q:=by
   cases r with
   |nil=>cases h3
   |cons e q=>exact⟨e,q,rfl⟩
  have bg:=afk m (p++e::r) n n i;have hg:(p++e::r).getD (i:Int).toNat .m=e:=by rw[dE,dD,kx ab,h2,ni];rfl
  have hs:∀x,(p++e::r).set (i:Int).toNat x=(p++ [x])++r:=λx=>by rw[dE,No _ _ ab,h2,ni];simp
  rw[hg,hs,ep ab ab]at bg;have hb:(Nat.beq (177:TypeId) (177:TypeId) &&true &&decide ((0:Int)<=(i:Int)) &&decide ((i:Int)<(n:Int)))=true:=by rw[aD (show(0:Int)<=(i:Int)from ab),aD (show(i:Int)<(n:Int)from ab)];rfl
  refine eB.V DM 0 ae ae cv bg (.D (aD ab) (.D hb (.D (h4 e aB) (.D hb (.mR ?_)))));rw[show(i:Int)+1=((i+1:Nat):Int)from ab];rw[show(p++List.map (wN m) (e::r))=(p++ [wN m e])++List.map (wN m) r from aB];exact afm m n hn k (i+1) (p++ [wN m e]) r ab (by simp;omega) (by simpa using h3) (λx hx=>h4 x (by simp[hx]))
def ayc(m:Nat):cJ an (GY m) uN (UE m):=by
 intro m_ key vs os r h;unfold UE at h;split at h
 ·rename_i n q len l;obtain⟨h1,h2⟩:=aO h;simp only[au,bC]at h1;obtain⟨⟨⟨⟨⟨hq,hn⟩,rfl⟩,hd⟩,hm⟩,hk⟩:=h1;obtain rfl:=aV hm;obtain rfl:=aV hk;obtain rfl:=aV hn;obtain rfl:=aV hq;unfold mu at hd;rw[au,bC]at hd;cases h2;have hl:=hd.1;refine afm m l.length hl l.length 0 [] l ab rfl rfl λe he=>ayb ?_;have:=List.all_eq_true.1 hd.2 e he;rwa[bne_iff_ne]at this
 ·obtain⟨h1,h2⟩:=aO h;simp only[au]at h1;obtain rfl:=aV h1.1;obtain rfl:=aV h1.2;cases h2;exact eB.V DM 0 ae ae cv (afl (GY m)) (.I rfl rfl)
 ·cases h
def ayd:cJ an UF uN UG:=by
 intro m_ key vs os r h;unfold UG at h;split at h
 ·obtain⟨h1,h2⟩:=aO h;simp only[au]at h1;obtain rfl:=aV h1.1;obtain rfl:=aV h1.2;cases h2;exact eB.V DM 0 ae ae cv (afl UF) (.I rfl rfl)
 ·cases h
def afn:aH 110 (kH 177):=yf aW func110 ae ae ac_ ae ae ac'
def afo(m:Nat)(ih:∀k,m=k+1->aH 69 (GX k)):aH 69 (GX m):=λp q r h=>by
  unfold GX at h;split at h
  ·rename_i l;obtain⟨h1,h2⟩:=aO h;cases h2;cases l with
   |nil=>
    have e:A0 m []=[]:=by cases m<;>rfl
    rw[e];exact FP aW (aA afn aQ) c_ DM rfl ayd (ax' ())
   |cons v l=>
    cases m with
    |zero=>unfold mu at h1;rw[au,ja,au]at h1;exact absurd h1.2.1 (by simp[cW])
    |succ m=>
     refine FP aW (aA (ax_ afn) (aA (ih m rfl) aQ)) c_ DM rfl (ayc m) ((aya m (v::l)).trans ?_);have hl:(v::l).length<=1000:=by unfold mu at h1;rw[au,bC]at h1;exact h1.1
     refine aZ ?_ (aZ ?_ rfl)
     ·rw[aD (show(v::l).length<=4294967296 from ab)];rfl
     ·rw[gq,aD rfl,h1];rfl
  ·cases h
def afp:∀m,aH 69 (GX m)
 |0=>afo 0 λk h=>by cases h
 |m+1=>afo (m+1) λk h=>by cases h;exact afp m
def afq{w O}:∀(m:Nat)(l:List aa)(x:Value),ax aJ w O (.d 177 l) bh x->A0 m l=l
 |0,l,x,h=>rfl
 |m+1,l,x,h=>by
  obtain⟨ad,cap,_,_,h0 | ⟨b,o,_,_,_,hs⟩⟩:=h
  ·subst h0;rfl
  ·have key:∀(l:List aa)(o:Nat),bN aJ w O l 177 b o->l.map (wN m)=l:=by
    intro l;induction l with
    |nil=>intro o _;rfl
    |cons v l ih=>
     intro o h;obtain⟨⟨_,h1⟩,⟨cs,h2,h3,h4⟩,h5⟩:=h;rw[lX,ih _ h5];congr 1
     have hv:bB v=v:=h1;rw[<-hv]at h4;obtain⟨a,_,y1,r1,_,g1,y2,r2,_,g2,y3,r3,_,g3,y4,r4,_,g4,y5,r5,_,h6,_⟩:=h4;have h7:=afq m (v.D 4).U y5 h6;unfold wN;rw[h7];exact hv
   exact key l o hs
def lR:Nat->List aa->Bool
 |0,l=>l.isEmpty
 |m+1,l=>decide (l.length<=1000) &&l.all λs=>mu 20 (dG s) &&lR m (aP s) &&lR m (bf s)
def afr:aH 68 (kH 97):=yf aW func68 ae ae ac8 ae ae ac9
def UH:∀args w,(callFunc 68 args).run prog w=.ok (.enter 68 args) w:=by obtain⟨c,hc⟩:=Option.isSome_iff_exists.1 (show f68.body.isSome=true from ae);exact qh func68 ae hc
def afs:∀args w,(callFunc 69 args).run prog w=.ok (.enter 69 args) w:=by obtain⟨c,hc⟩:=Option.isSome_iff_exists.1 (show f69.body.isSome=true from ae);exact qh func69 ae hc
section
variable{w w':World}{O O':Nat->Prop}
abbrev eL:Nat->Prop:=λ_=>False
def rC(h:cw eL w w')(hO:∀c,O' c->O c\/w.heap.size<=c):cz w w' O O':=⟨h.d,λc hc _=>h.a c hc (λh=>h),λc hc hn hO'=>by
 rcases hO c hO' with h1 |h1
 ·exact hn h1
 ·omega⟩
def aft{t b:Nat}(hk:cz w w' O O'):∀(vs:List aa)(o:Nat),(∀j,o<=j->w'.cell? ⟨b,j,none⟩=w.cell? ⟨b,j,none⟩)->bN aJ w O vs t b o->bN aJ w' O' vs t b o
 | [],_,_,_=>trivial
 |v::vs,o,hc,h=>by obtain⟨h1,⟨cs,h2,h3,h4⟩,h5⟩:=h;exact⟨h1,⟨cs,h2,λj u hj=>(hc _ ab).trans (h3 j u hj),ax.D hk v _ _ _ (λ_ _ h=>h) h4⟩,aft hk vs _ (λj hj=>hc j ab) h5⟩
def DN{β β':Nat->AH.bd}{h':Nat->aj}(h:dZ m (a_ []) β w h' β' w'):cw eL w w':=⟨h.f,h.n,h.p,h.c,λc hc _=>h.d c hc λi mi=>by
 have:=mi.1;rw[show a_ [] i=.c by cases i<;>rfl]at this;cases this⟩
def aye(k:Nat)(hg:gj aJ cO O w)(hr:ax aJ w O (.d 97 l) bh x)(hl:l.length<=1000):
  CallsIn Fence.wide k prog 68 #[x] w λe w'=>∃y,e=.returned y/\cw eL w w'/\((l=[]/\∃a c,y=.slice a 0 c)\/∃b off cap arr,w.heap.size<=b/\l≠ []/\y=.slice (some ⟨b,off,none⟩) l.length cap/\l.length<=cap/\w'.heap[b]? =some (.cells arr 97 (0,0))/\arr.size=off+cap*8/\bN aJ w' (λc=>O c\/c=b) l 97 b off):=by
 cases l with
 |nil=>
  refine C2 afr UH (args:=[.d 97 []]) (out:=.a (.d 97 []) []) rfl hg ⟨x,[],rfl,hr,rfl⟩ (λ_=>default) λe w' he=> ?_;cases e with
  |returned y=>obtain⟨v,ao,β',h1,gd⟩:=he;cases h1;obtain⟨a,c,h2,_,_⟩:=gd.b;exact⟨y,rfl,DN gd.a,.inl ⟨rfl,a,c,h2⟩⟩
  |panicked c=>obtain⟨v,ao,β',x,h1,_⟩:=he;cases h1
  |outgrown=>exact he.elim
 |cons v l=>
  refine C2 afr UH (args:=[.d 97 (v::l)]) (out:=.a (.y 97 0 0 (v::l).length) [.b false 0 97 (v::l)]) ?_ hg ⟨x,[],rfl,hr,rfl⟩ (λ_=>default) λe w' he=> ?_
  ·exact aZ (aD (show(v::l).length<=4294967296 from ab)) rfl
  cases e with
  |returned y=>
   obtain⟨u,ao,β',h1,gd⟩:=he;cases h1;refine⟨y,rfl,DN gd.a,.inr ?_⟩;obtain⟨ro,g',t',vs',h2,_,_,h3⟩:=gd.b;cases h2;obtain⟨_,_,rfl⟩:=h3 rfl;obtain⟨_,h4 | ⟨h4,cur,h5,h6,h7,h8,h9⟩⟩:=gd.c.c 0
   ·exact absurd h4.2.1 aB
   ·have hm:cQ (a_ [.b false 0 97 (v::l)]) β' 0:=⟨rfl,h4⟩
    refine⟨(β' 0).a,(β' 0).c,(β' 0).b,cur,?_,aB,by simp[AH.bd.D,h4],h6,h5,h8,?_⟩
    ·rcases gd.a.r 0 hm with⟨i,mi,_⟩ |h
     ·have:=mi.1;rw[show a_ [] i=.c by cases i<;>rfl]at this;cases this
     ·exact h
    ·refine bN.D (cz.D λc hc=> ?_) _ _ _ _ rfl h9;rcases hc with hc |rfl
     ·exact .inl hc
     ·exact .inr ⟨0,hm,rfl⟩
  |panicked c=>obtain⟨v,ao,β',x,h1,_⟩:=he;cases h1
  |outgrown=>exact he.elim
def ayf(k:Nat)(hg:gj aJ cO O w)(hr:ax aJ w O (.d 177 l) bh x)(hl:mu 20 l=true):
  CallsIn Fence.wide k prog 69 #[x] w λe w'=>∃y,e=.returned y/\cw eL w w'/\ax aJ w' O (.d 177 l) bh y:=by
 refine C2 (afp 20) afs (args:=[.d 177 l]) (out:=.a (.d 177 (A0 20 l)) []) (aZ hl rfl) hg ⟨x,[],rfl,hr,rfl⟩ (λ_=>default) λe w' he=> ?_;cases e with
 |returned y=>obtain⟨v,ao,β',h1,gd⟩:=he;cases h1;refine⟨y,rfl,DN gd.a,?_⟩;have h2:=gd.b;rw[Ah,afq 20 l x hr]at h2;exact h2
 |panicked c=>obtain⟨v,ao,β',x,h1,_⟩:=he;cases h1
 |outgrown=>exact he.elim
end
def DO(m:Nat):Prop:=∀(l:List aa)(x:Value)(O:Nat->Prop)(w:World)(k:Nat),gj aJ cO O w->ax aJ w O (.d 97 l) bh x->lR m l=true->
 CallsIn Fence.wide k prog 36 #[x] w λe w'=>∃y B,e=.returned y/\cw eL w w'/\B.Nodup/\(∀b∈B,w.heap.size<=b/\b<w'.heap.size)/\iX w' (λc=>O c\/c∈B) m B l y
noncomputable def cE(k:Nat):Array Oper:=(rp k (f36.body.getD .skip)).getD #[]
def afu:f36.body=some (.seq (.region 0 (cE 0) false) (.seq (.region 1 (cE 1) false) (.seq (.seq (.region 2 (cE 2) false) (.block 0 (.loop (.seq (.region 3 (cE 3) false) (.seq (.cond (.tmp 11) .skip (.exit 0)) (.seq (.block 1 (.seq (.region 4 (cE 4) false) (.region 5 (cE 5) true))) (.region 6 (cE 6) false))))))) (.seq (.region 7 (cE 7) false) .ret)))):=ae
def UI:∀args w,(callFunc 36 args).run prog w=.ok (.enter 36 args) w:=qh func36 ae afu
def ayg:f36.ntmps=38:=ae
def eF(k j:Nat):Oper:=((cE k)[j]?).getD default
def ayh:=aM cE eF 0 0 (.assign (.const (.slice none 0 0))) (some 2)
def ayi:=aM cE eF 1 0 (.move (.tmp 0)) (some 6)
def ayj:=aM cE eF 1 1 (.call ⟨.value (.func 68),#[.tmp 6],#[41]⟩) (some 7)
def ayk:=aM cE eF 1 2 (.assign (.tmp 7)) (some 3)
def ayl:=aM cE eF 2 0 (.move (.tmp 3)) (some 8)
def aym:=aM cE eF 2 1 (.call ⟨.builtin .len,#[.tmp 8],#[41]⟩) (some 9)
def ayn:=aM cE eF 2 2 (.move (.const (.int .i64 0))) (some 10)
def afv:=aM cE eF 3 0 (.binOp .lss 3 (.tmp 10) (.tmp 9) 3) (some 11)
def ayo:=aM cE eF 4 0 (.move (.tmp 10)) (some 12)
def ayp:=aM cE eF 4 1 (.indexAddr 41 (.tmp 8) (.tmp 10)) (some 13)
def ayq:=aM cE eF 4 2 (.load 97 (.tmp 13)) (some 14)
def ayr:=aM cE eF 4 3 (.alloc 97) (some 5)
def ays:=aM cE eF 4 4 (.assign (.tmp 12)) (some 4)
def ayt:=aM cE eF 4 5 (.store 97 (.tmp 5) (.tmp 14)) (none)
def afw:=aM cE eF 5 0 (.move (.tmp 3)) (some 15)
def afx:=aM cE eF 5 1 (.move (.tmp 4)) (some 16)
def afy:=aM cE eF 5 2 (.move (.tmp 3)) (some 17)
def afz:=aM cE eF 5 3 (.move (.tmp 4)) (some 18)
def afA:=aM cE eF 5 4 (.move (.tmp 3)) (some 19)
def afB:=aM cE eF 5 5 (.move (.tmp 4)) (some 20)
def afC:=aM cE eF 5 6 (.fieldAddr 97 (.tmp 5) 5) (some 21)
def afD:=aM cE eF 5 7 (.load 95 (.tmp 21)) (some 22)
def ayu:=aM cE eF 5 8 (.call ⟨.value (.func 69),#[.tmp 22],#[95]⟩) (some 23)
def afE:=aM cE eF 5 9 (.fieldAddr 97 (.tmp 5) 6) (some 24)
def afF:=aM cE eF 5 10 (.load 41 (.tmp 24)) (some 25)
def ayv:=aM cE eF 5 11 (.call ⟨.value (.func 36),#[.tmp 25],#[41]⟩) (some 26)
def afG:=aM cE eF 5 12 (.fieldAddr 97 (.tmp 5) 7) (some 27)
def afH:=aM cE eF 5 13 (.load 41 (.tmp 27)) (some 28)
def ayw:=aM cE eF 5 14 (.call ⟨.value (.func 36),#[.tmp 28],#[41]⟩) (some 29)
def afI:=aM cE eF 5 15 (.indexAddr 41 (.tmp 15) (.tmp 16)) (some 30)
def afJ:=aM cE eF 5 16 (.fieldAddr 97 (.tmp 30) 5) (some 31)
def ayx:=aM cE eF 5 17 (.store 95 (.tmp 31) (.tmp 23)) (none)
def afK:=aM cE eF 5 18 (.indexAddr 41 (.tmp 17) (.tmp 18)) (some 32)
def afL:=aM cE eF 5 19 (.fieldAddr 97 (.tmp 32) 6) (some 33)
def ayy:=aM cE eF 5 20 (.store 41 (.tmp 33) (.tmp 26)) (none)
def afM:=aM cE eF 5 21 (.indexAddr 41 (.tmp 19) (.tmp 20)) (some 34)
def afN:=aM cE eF 5 22 (.fieldAddr 97 (.tmp 34) 7) (some 35)
def ayz:=aM cE eF 5 23 (.store 41 (.tmp 35) (.tmp 29)) (none)
def ayA:=aM cE eF 6 0 (.binOp .add 3 (.tmp 10) (.const (.int .i64 1)) 3) (some 36)
def ayB:=aM cE eF 6 1 (.move (.tmp 36)) (some 10)
def ayC:=aM cE eF 7 0 (.move (.tmp 3)) (some 37)
def ayD:=aM cE eF 7 1 (.assign (.tmp 37)) (some 2)
def ayE:List.range (cE 0).size=[0]:=ae
def ayF:List.range (cE 1).size=[0,1,2]:=ae
def ayG:List.range (cE 2).size=[0,1,2]:=ae
def afO:List.range (cE 3).size=[0]:=ae
def ayH:List.range (cE 4).size=[0,1,2,3,4,5]:=ae
def ayI:List.range (cE 6).size=[0,1]:=ae
def ayJ:List.range (cE 7).size=[0,1]:=ae
def ayK:f36.results= #[.tmp 2]:=ae
def DP:(cE 5).size=24:=ae
def nX:List Nat:=[8,11,14,15,16,17,18,19,20,21,22,23]
def oO(j:Nat):List Nat:=match j with |7=> [6] |8=> [7] |10=> [9] |11=> [10] |13=> [12] |14=> [13] |15=> [0,1] |18=> [2,3] |21=> [4,5] |_=> []
def afP(md:Region.Mode)(j:Nat):Nat:=match md with | .gc=>(match j with |2=>35 |3=>35 |4=>41 |5=>41 |_=>2*j) |_=>2*j
def ayL(md:Region.Mode):J1 md (cE 5) nX oO (afP md):=ab3 (by cases md<;>kernel_rfl)
def yV(j:Nat):Nat:=match j with |0=>15 |1=>16 |2=>17 |3=>18 |4=>19 |5=>20 |6=>21 |7=>22 |8=>23 |9=>24 |10=>25 |11=>26 |12=>27 |13=>28 |14=>29 |15=>30 |16=>31 |18=>32 |19=>33 |21=>34 |22=>35 |_=>36
def oP:List Nat:=[3,8,9,10,4,5,23,26,29,30,31,32,33,34,35]
def afQ:∀j,j<24->yV j<38:=av
def ayM:∀j,j<24->j∉nX->∀k,k<24->k≠j->yV k≠yV j:=av
def ayN:∀j,j<24->j∉nX->yV j∉oP:=av
def ayO:∀j,j<24->j∉nX->j=0\/j=1\/j=2\/j=3\/j=4\/j=5\/j=6\/j=7\/j=9\/j=10\/j=12\/j=13:=av
def afR:∀{L:lJ}{d:Nat},(∀q∈L,q.1∈oP)->d∉oP->AH.mS L d=.none
 | [],_,_,_=>rfl
 | (k,v)::r,d,h,hd=>by
  have hk:Nat.beq k d=false:=by
   cases hb:Nat.beq k d with
   |false=>rfl
   |true=>exact absurd (iZ hb▸h (k,v) aB) hd
  unfold AH.mS;rw[hk];exact afR (λq hq=>h q (by simp[hq])) hd
section
variable(m:Nat)(O:Nat->Prop)(b q:Nat)(Bd:List Nat)(s:aa)(arr:Array Value)
def fJ(O:Nat->Prop)(b:Nat)(Bd:List Nat):Nat->Prop:=λc=>O c\/c=b\/c∈Bd
structure ayP(w3:World)(x5 x6:Value)(B1:List Nat)(w:World):Prop where
 d:cw eL w3 w
 e:B1.Nodup
 a:∀c∈B1,w3.heap.size<=c/\c<w.heap.size
 f:ax aJ w (λc=>fJ O b Bd c\/c∈B1) (.d 177 (dG s)) bh x5
 g:iX w (λc=>fJ O b Bd c\/c∈B1) m B1 (aP s) x6
structure afS(w3:World)(x5 x6 x7:Value)(B1 B2:List Nat)(w:World):Prop where
 a:cw eL w3 w
 h:(B1++B2).Nodup
 d:∀c∈B1++B2,w3.heap.size<=c/\c<w.heap.size
 e:ax aJ w (fJ O b (Bd++(B1++B2))) (.d 177 (dG s)) bh x5
 f:iX w (fJ O b (Bd++(B1++B2))) m B1 (aP s) x6
 g:iX w (fJ O b (Bd++(B1++B2))) m B2 (bf s) x7
def A1(n:Nat)(x5 x6 x7:Value):List Value:=match n with
 |0=>arr.toList |1=>arr.toList.set (q+5) x5 |2=>(arr.toList.set (q+5) x5).set (q+6) x6 |_=>((arr.toList.set (q+5) x5).set (q+6) x6).set (q+7) x7
structure afT(n:Nat)(x5 x6 x7:Value)(w4 w:World):Prop where
 a:cw (· =b) w4 w
 d:w.heap.size=w4.heap.size
 c:w.heap[b]? =some (.cells (A1 q arr n x5 x6 x7).toArray 97 (0,0))
variable(y:Value)(ix L bs:Nat)
def wO:lJ:=[(3,y),(8,y),(9,.int .i64 L),(10,.int .i64 ix),(4,.int .i64 ix),(5,.pointer (some ⟨bs,0,none⟩))]
def afU(x5 x6 x7:Value):lJ:=(29,x7)::(26,x6)::(23,x5)::wO y ix L bs
def fe(i:Nat):Value:=.pointer (some ⟨b,q+i,none⟩)
def UJ(p:Nat):lJ:=match p with
 |4=> [(30,fe b q 0)] |5=> [(31,fe b q 5),(30,fe b q 0)] |6=> [(31,fe b q 5),(30,fe b q 0)] |7=> [(32,fe b q 0),(31,fe b q 5),(30,fe b q 0)] |8=> [(33,fe b q 6),(32,fe b q 0),(31,fe b q 5),(30,fe b q 0)] |9=> [(33,fe b q 6),(32,fe b q 0),(31,fe b q 5),(30,fe b q 0)]
 |10=> [(34,fe b q 0),(33,fe b q 6),(32,fe b q 0),(31,fe b q 5),(30,fe b q 0)] |11=> [(35,fe b q 7),(34,fe b q 0),(33,fe b q 6),(32,fe b q 0),(31,fe b q 5),(30,fe b q 0)] |12=> [(35,fe b q 7),(34,fe b q 0),(33,fe b q 6),(32,fe b q 0),(31,fe b q 5),(30,fe b q 0)] |_=> []
def GZ(p:Nat):Nat:=match p with |0 |1 |2 |3 |4 |5=>0 |6 |7 |8=>1 |9 |10 |11=>2 |_=>3
def UK(w3:World)(p:Nat)(l:lJ)(w:World):Prop:=match p with
 |0=>l=wO y ix L bs/\w=w3
 |1=>∃x5,l=(23,x5)::wO y ix L bs/\cw eL w3 w/\ax aJ w (fJ O b Bd) (.d 177 (dG s)) bh x5
 |2=>∃x5 x6 B1,l=(26,x6)::(23,x5)::wO y ix L bs/\ayP m O b Bd s w3 x5 x6 B1 w
 |p=>∃x5 x6 x7 B1 B2 w4,l=UJ b q p++afU y ix L bs x5 x6 x7/\afS m O b Bd s w3 x5 x6 x7 B1 B2 w4/\afT b q arr (GZ p) x5 x6 x7 w4 w
def nY(w3:World)(p:Nat)(a:Act)(w:World):Prop:=∃l,bM 38 l a/\(∀q∈l,q.1∈oP)/\UK m O b q Bd s arr y ix L bs w3 p l w
end
def ayQ(y)(ix L bs:Nat):∀q∈wO y ix L bs,q.1∈oP:=by intro q hq;simp only[wO,jc,oZ,og]at hq;rcases hq with rfl |rfl |rfl |rfl |rfl |rfl<;>simp[oP]
def A2{Tt}{a:Act}(hT:cH P Tt){e:TypeId}{x y o}{n:Nat}{kd:IntKind}(ho:o.op=.indexAddr t x y)(hd:(Tt t).c=.a e)(he:(Tt e).D=true)(hx:a.eval x=.slice (some ⟨b,off,none⟩) n cap)(hy:a.eval y=.int kd i)(h0:0<=i)(h1:i<n):
  (execOp a.eval o).run P w=.ok (.value (.pointer (some ⟨b,off+i.toNat*(Tt e).a,none⟩))) w:=by
 obtain⟨hu,_⟩:=(hT.D (jh hd aB)).I hd;simp[execOp,ho,hx,hy,Cy hu (hT.D he) ⟨b,off,none⟩ n cap kd i h0 h1,i_]
def G0:∀{pre l:lJ}{t:Nat},(∀r∈pre,r.1≠t)->AH.mS (pre++l) t=AH.mS l t
 | [],_,_,_=>rfl
 | (k,v)::r,l,t,h=>by
  have hk:Nat.beq k t=false:=by
   cases hb:Nat.beq k t with
   |false=>rfl
   |true=>exact absurd (iZ hb) (h (k,v) aB)
  rw[u9];have e:AH.mS ((k,v)::(r++l)) t=(match Nat.beq k t with |true=>some v |false=>AH.mS (r++l) t):=rfl;rw[e,hk];exact G0 (pre:=r) λq hq=>h q (oX _ hq)
section
variable{m:Nat}{O:Nat->Prop}{b q:Nat}{Bd:List Nat}{s:aa}{arr:Array Value}{y:Value}{ix L bs:Nat}{w3:World}
def ayR{p:Nat}{l:lJ}(h:UK m O b q Bd s arr y ix L bs w3 p l w)(vo:bs<w3.heap.size)(bL:bs≠b):(∃pre,l=pre++wO y ix L bs/\∀r∈pre,r.1≠3/\r.1≠4/\r.1≠5)/\w.heap[bs]? =w3.heap[bs]? :=by
 unfold UK at h;split at h
 ·obtain⟨rfl,rfl⟩:=h;exact⟨⟨[],rfl,aB⟩,rfl⟩
 ·obtain⟨x5,rfl,h1,_⟩:=h;exact⟨⟨[(23,x5)],rfl,aB⟩,h1.a _ vo (λh=>h)⟩
 ·obtain⟨x5,x6,B1,rfl,h1⟩:=h;exact⟨⟨[(26,x6),(23,x5)],rfl,aB⟩,h1.d.a _ vo (λh=>h)⟩
 ·obtain⟨x5,x6,x7,B1,B2,w4,rfl,h1,h2⟩:=h;refine⟨⟨UJ b q p++ [(29,x7),(26,x6),(23,x5)],by simp[afU],λr hr=> ?_⟩,(h2.a.a _ (dJ vo h1.a.d) bL).trans (h1.a.a _ vo (λh=>h))⟩;rcases List.mem_append.1 hr with hr |hr
  ·unfold UJ at hr;split at hr<;>simp only[jc,oZ,og]at hr
   all_goals first |exact hr.elim | (subst hr;simp) | (rcases hr with rfl |rfl<;>simp) | (rcases hr with rfl |rfl |rfl<;>simp) | (rcases hr with rfl |rfl |rfl |rfl<;>simp) | (rcases hr with rfl |rfl |rfl |rfl |rfl<;>simp) | (rcases hr with rfl |rfl |rfl |rfl |rfl |rfl<;>simp)
  ·simp only[jc,oZ,og]at hr;rcases hr with rfl |rfl |rfl<;>simp
def ayS{p:Nat}{a:Act}(h:nY m O b q Bd s arr y ix L bs w3 p a w)(vo:bs<w3.heap.size)(bL:bs≠b):a.tmps.getD 3 undef=y/\a.tmps.getD 4 undef=.int .i64 ix/\a.tmps.getD 5 undef=.pointer (some ⟨bs,0,none⟩)/\w.heap[bs]? =w3.heap[bs]? :=by obtain⟨l,hs,_,hj⟩:=h;obtain⟨⟨pre,rfl,hp⟩,hh⟩:=ayR hj vo bL;exact⟨hs.b 3 _ (by rw[G0 λr hr=>(hp r hr).1];rfl),hs.b 4 _ (by rw[G0 λr hr=>(hp r hr).2.1];rfl),hs.b 5 _ (by rw[G0 λr hr=>(hp r hr).2.2];rfl),hh⟩
variable{c0 c1 c2 c3 c4 c5 c6 c7:Value}
def UL(y:Value)(ix bs:Nat)(c5 c6 c7:Value)(j:Nat):Value:=match j with
 |0=>y |2=>y |4=>y |1=>.int .i64 ix |3=>.int .i64 ix |5=>.int .i64 ix |6=>.pointer (some ⟨bs,5,none⟩) |7=>c5 |9=>.pointer (some ⟨bs,6,none⟩) |10=>c6 |12=>.pointer (some ⟨bs,7,none⟩) |13=>c7 |_=>undef
def uO{b q:Nat}(h:w.cell? ⟨b,q,none⟩=some u):dH w b q [u]:=λj v hj=>by
 cases j with
 |zero=>simp at hj;subst hj;exact h
 |succ j=>simp at hj
def afV{O}(h:ax aJ w O (.d t l) bh x):x.cells= #[x]/\x.oneCell'=true:=by obtain⟨a,cap,rfl,_⟩:=h;exact⟨rfl,rfl⟩
def L7{O}{m:Nat}(h:iX w O m B l x):x.cells= #[x]/\x.oneCell'=true:=by obtain⟨a,cap,rfl⟩:=afh h;exact⟨rfl,rfl⟩
structure L8(m:Nat)(O:Nat->Prop)(b off n cap q:Nat)(Bd:List Nat)(s:aa)(arr:Array Value)(y:Value)(ix bs:Nat)(c5 c6 c7:Value)(w3:World):Prop where
 g:w3.heap[b]? =some (.cells arr 97 (0,0))
 a:q=off+ix*8
 c:q+8<=arr.size
 d:ix<n
 e:y=.slice (some ⟨b,off,none⟩) n cap
 h:bs<w3.heap.size
 i:bs≠b
 j:w3.cell? ⟨bs,5,none⟩=some c5
 k:w3.cell? ⟨bs,6,none⟩=some c6
 l:w3.cell? ⟨bs,7,none⟩=some c7
 f:gj aJ cO (fJ O b Bd) w3
 o:ax aJ w3 (fJ O b Bd) (.d 177 (dG s)) bh c5
 p:ax aJ w3 (fJ O b Bd) (.d 97 (aP s)) bh c6
 r:ax aJ w3 (fJ O b Bd) (.d 97 (bf s)) bh c7
 t:mu 20 (dG s)=true
 u:lR m (aP s)=true
 v:lR m (bf s)=true
def yW{b j:Nat}(h:w'.heap[b]? =w.heap[b]?)(hu:w.cell? ⟨b,j,none⟩=some u):w'.cell? ⟨b,j,none⟩=some u:=(L6 h).trans hu
variable{off n cap:Nat}
def ayT(h:L8 m O b off n cap q Bd s arr y ix bs c5 c6 c7 w3)(p:Nat)(a:Act)(w)(j:Nat)(hj:j<24)(j7:j∉nX)(hI:nY m O b q Bd s arr y ix L bs w3 p a w)(hn:∀d∈oO j,d∉nX->a.tmps.getD (yV d) undef=UL y ix bs c5 c6 c7 d):
  wpOpIn Fence.wide k prog (cE 5) Q j (λa' w'=>w'=w/\a'=a.put (some (yV j)) (UL y ix bs c5 c6 c7 j)) a w:=by
 obtain⟨t3,t4,t5,hh⟩:=ayS hI h.h h.i;have rm:∀{o:Oper}{t:Nat}{v:Value},o.op=.move (.tmp t)->a.tmps.getD t undef=v->(execOp a.eval o).run prog w=.ok (.value v) w:=λho hv=>by rw[<-hv];exact CR ho
 rcases ayO j hj j7 with rfl |rfl |rfl |rfl |rfl |rfl |rfl |rfl |rfl |rfl |rfl |rfl
 ·exact gY afw (rm afw.a t3)
 ·exact gY afx (rm afx.a t4)
 ·exact gY afy (rm afy.a t3)
 ·exact gY afz (rm afz.a t4)
 ·exact gY afA (rm afA.a t3)
 ·exact gY afB (rm afB.a t4)
 ·exact gY afC (uf aW (k:=0) rfl rfl afC.a t5)
 ·exact gY afD (ye aW rfl rfl (uO (yW hh h.j)) afD.a (hn 6 (by simp[oO]) av))
 ·exact gY afE (uf aW (k:=0) rfl rfl afE.a t5)
 ·exact gY afF (ye aW rfl rfl (uO (yW hh h.k)) afF.a (hn 9 (by simp[oO]) av))
 ·exact gY afG (uf aW (k:=0) rfl rfl afG.a t5)
 ·exact gY afH (ye aW rfl rfl (uO (yW hh h.l)) afH.a (hn 12 (by simp[oO]) av))
def rD(m:Nat)(O:Nat->Prop)(b q:Nat)(Bd:List Nat)(s:aa)(arr:Array Value)(y:Value)(ix L bs:Nat)(w3:World)(p j:Nat)(a a':Act)(w':World):Prop:=nY m O b q Bd s arr y ix L bs w3 (p+1) a' w'/\a'.tmps.size=38/\∀t,t≠yV j->a'.tmps.getD t undef=a.tmps.getD t undef
section
variable(h:L8 m O b off n cap q Bd s arr y ix bs c5 c6 c7 w3){k:Nat}{Q:Exit->Act->World->Prop}{a:Act}{w:World}
include h
theorem ayU(hI:nY m O b q Bd s arr y ix L bs w3 0 a w)(hN:a.tmps.size=38)(h7:a.tmps.getD 22 undef=c5):wpOpIn Fence.wide k prog (cE 5) Q 8 (rD m O b q Bd s arr y ix L bs w3 0 8 a) a w:=by
 obtain⟨l,hs,hk,rfl,rfl⟩:=hI;refine ym (oG ayu hs afs (vs:=[c5]) (by simp[Act.eval,h7]) (ayf (k-1) h.f h.o h.t) λe w' ⟨x5,he,hc,hr⟩=>⟨x5,he,?_⟩);refine⟨⟨_,hs.U (d:=23) av x5,λr hr=> ?_,x5,rfl,hc,hr⟩,by rw[fS];exact hN,λt ht=>rn (by rw[hN];decide) (λe=>ht e.symm) x5⟩;rcases List.mem_cons.1 hr with rfl |hr
 ·simp[oP]
 ·exact hk r hr
theorem afW{O' w}(hc:cw eL w3 w)(hO:∀c,O' c->fJ O b Bd c\/(w3.heap.size<=c/\c<w.heap.size)):gj aJ cO O' w:=h.f.D (rC hc λc hc=>(hO c hc).imp id (·.1)) λc dw=>by
 rcases hO c dw with h1 |h1
 ·exact dJ (h.f.a c h1) hc.d
 ·exact h1.2
theorem ayV(ih:DO m)(hI:nY m O b q Bd s arr y ix L bs w3 1 a w)(hN:a.tmps.size=38)(h7:a.tmps.getD 25 undef=c6):wpOpIn Fence.wide k prog (cE 5) Q 11 (rD m O b q Bd s arr y ix L bs w3 1 11 a) a w:=by
 obtain⟨l,hs,hk,x5,rfl,hc,zG⟩:=hI;refine ym (oG ayv hs UI (vs:=[c6]) (by simp[Act.eval,h7]) (ih (aP s) c6 (fJ O b Bd) w (k-1) (afW h hc λc hc=>.inl hc) (ax.D (rC hc λc hc=>.inl hc) _ _ _ _ (λ_ _ h=>h) h.p) h.u) λe w' ⟨x6,B1,he,fw,nd,rng,dx6⟩=>⟨x6,he,?_⟩);refine⟨⟨_,hs.U (d:=26) av x6,λr hr=> ?_,x5,x6,B1,rfl,⟨hc.D fw,nd,λc dw=>⟨eb hc.d (rng c dw).1,(rng c dw).2⟩,ax.D (rC fw λc dw=>dw.imp id λh=>(rng c h).1) _ _ _ _ (λ_ _ h=>h) zG,dx6⟩⟩,by rw[fS];exact hN,λt ht=>rn (by rw[hN];decide) (λe=>ht e.symm) x6⟩;rcases List.mem_cons.1 hr with rfl |hr
 ·simp[oP]
 ·exact hk r hr
theorem ayW(ih:DO m)(hI:nY m O b q Bd s arr y ix L bs w3 2 a w)(hN:a.tmps.size=38)(h7:a.tmps.getD 28 undef=c7):wpOpIn Fence.wide k prog (cE 5) Q 14 (rD m O b q Bd s arr y ix L bs w3 2 14 a) a w:=by
 obtain⟨l,hs,hk,x5,x6,B1,rfl,hR⟩:=hI;have hc:=hR.d;have pS:∀c,(fJ O b Bd c\/c∈B1)->fJ O b Bd c\/(w3.heap.size<=c/\c<w.heap.size):=λc dw=>dw.imp id (hR.a c);refine ym (oG ayw hs UI (vs:=[c7]) (by simp[Act.eval,h7]) (ih (bf s) c7 (λc=>fJ O b Bd c\/c∈B1) w (k-1) (afW h hc pS) (ax.D (rC hc λc dw=>(pS c dw).imp id (·.1)) _ _ _ _ (λ_ _ h=>h) h.r) h.v) λe w' ⟨x7,B2,he,fw,nd,rng,dx7⟩=>⟨x7,he,?_⟩);have jd:∀c,fJ O b (Bd++(B1++B2)) c->(fJ O b Bd c\/c∈B1)\/c∈B2:=λc dw=>by
  rcases dw with h1 |h1 |h1
  ·exact .inl (.inl (.inl h1))
  ·exact .inl (.inl (.inr (.inl h1)))
  ·simp only[xh]at h1;rcases h1 with h1 |h1 |h1
   ·exact .inl (.inl (.inr (.inr h1)))
   ·exact .inl (.inr h1)
   ·exact .inr h1
 have j2:cz w w' (λc=>fJ O b Bd c\/c∈B1) (fJ O b (Bd++(B1++B2))):=rC fw λc dw=>(jd c dw).imp id λh=>(rng c h).1;refine⟨⟨_,hs.U (d:=29) av x7,λr hr=> ?_,x5,x6,x7,B1,B2,w',rfl,⟨hc.D fw,?_,λc dw=> ?_,ax.D j2 _ _ _ _ (λ_ _ h=>h) hR.f,hR.g.D (λc dw=>fw.a c (hR.a c dw).2 λh=>h) j2,dx7.D (λ_ _=>rfl) (cz.D jd)⟩,⟨cw.V,rfl,?_⟩⟩,by rw[fS];exact hN,λt ht=>rn (by rw[hN];decide) (λe=>ht e.symm) x7⟩
 ·rcases List.mem_cons.1 hr with rfl |hr
  ·simp[oP]
  ·exact hk r hr
 ·refine List.nodup_append.2 ⟨hR.e,nd,λc h1 d h2 e=> ?_⟩;subst e;have:=(hR.a c h1).2;have:=(rng c h2).1;omega
 ·rcases List.mem_append.1 dw with h1 |h1
  ·have:=hR.a c h1;have:=fw.d;omega
  ·have:=rng c h1;have:=hc.d;omega
 ·have h1:=(hc.D fw).a b (mY h.g) λh=>h;rw[h1,h.g];simp[A1,GZ]
theorem ayX(hI:nY m O b q Bd s arr y ix L bs w3 3 a w)(hN:a.tmps.size=38)(h1:a.tmps.getD 15 undef=y)(h2:a.tmps.getD 16 undef=.int .i64 ix):wpOpIn Fence.wide k prog (cE 5) Q 15 (rD m O b q Bd s arr y ix L bs w3 3 15 a) a w:=by
 obtain⟨l,hs,hk,x5,x6,x7,B1,B2,w4,rfl,hR,hW⟩:=hI;have bm:=A2 (P:=prog) (w:=w) (a:=a) aW afI.a rfl rfl (h1.trans h.e) h2 (rR ix) (by have:=h.d;omega);rw[dE,show off+ix*(aJ 97).a=q from h.a.symm]at bm;refine xk (λa' w' hh=> ?_) (gY afI bm);obtain⟨rfl,rfl⟩:=hh;refine⟨⟨_,hs.U (d:=30) av (fe b q 0),λr hr=> ?_,x5,x6,x7,B1,B2,w4,rfl,hR,hW⟩,by rw[fS];exact hN,λt ht=>rn (by rw[hN];decide) (λe=>ht e.symm) _⟩;rcases List.mem_cons.1 hr with rfl |hr
 ·simp[oP]
 ·exact hk r hr
theorem ayY(hI:nY m O b q Bd s arr y ix L bs w3 4 a w)(hN:a.tmps.size=38):wpOpIn Fence.wide k prog (cE 5) Q 16 (rD m O b q Bd s arr y ix L bs w3 4 16 a) a w:=by
 obtain⟨l,hs,hk,x5,x6,x7,B1,B2,w4,rfl,hR,hW⟩:=hI;refine xk (λa' w' hh=> ?_) (gY afJ (uf aW (k:=q) rfl rfl afJ.a (hs.I (x:=.tmp 30) rfl)));obtain⟨rfl,rfl⟩:=hh;refine⟨⟨_,hs.U (d:=31) av (fe b q 5),λr hr=> ?_,x5,x6,x7,B1,B2,w4,rfl,hR,hW⟩,by rw[fS];exact hN,λt ht=>rn (by rw[hN];decide) (λe=>ht e.symm) _⟩;rcases List.mem_cons.1 hr with rfl |hr
 ·simp[oP]
 ·exact hk r hr
theorem ayZ(hI:nY m O b q Bd s arr y ix L bs w3 5 a w)(hN:a.tmps.size=38):wpOpIn Fence.wide k prog (cE 5) Q 17 (rD m O b q Bd s arr y ix L bs w3 5 17 a) a w:=by obtain⟨l,hs,hk,x5,x6,x7,B1,B2,w4,rfl,hR,hW⟩:=hI;have bE:=h.c;refine ym (ui aW ayx hs rfl rfl rfl rfl (afV hR.e).1 (afV hR.e).2 hW.c (by simp[A1,GZ];omega) λw' hp=> ?_);refine⟨⟨_,hs,hk,x5,x6,x7,B1,B2,w4,rfl,hR,⟨hW.a.D (sY hp),hp.a.trans hW.d,?_⟩⟩,hN,λt _=>rfl⟩;rw[hp.d hW.c];rfl
theorem ay0(hI:nY m O b q Bd s arr y ix L bs w3 6 a w)(hN:a.tmps.size=38)(h1:a.tmps.getD 17 undef=y)(h2:a.tmps.getD 18 undef=.int .i64 ix):wpOpIn Fence.wide k prog (cE 5) Q 18 (rD m O b q Bd s arr y ix L bs w3 6 18 a) a w:=by
 obtain⟨l,hs,hk,x5,x6,x7,B1,B2,w4,rfl,hR,hW⟩:=hI;have bm:=A2 (P:=prog) (w:=w) (a:=a) aW afK.a rfl rfl (h1.trans h.e) h2 (rR ix) (by have:=h.d;omega);rw[dE,show off+ix*(aJ 97).a=q from h.a.symm]at bm;refine xk (λa' w' hh=> ?_) (gY afK bm);obtain⟨rfl,rfl⟩:=hh;refine⟨⟨_,hs.U (d:=32) av (fe b q 0),λr hr=> ?_,x5,x6,x7,B1,B2,w4,rfl,hR,hW⟩,by rw[fS];exact hN,λt ht=>rn (by rw[hN];decide) (λe=>ht e.symm) _⟩;rcases List.mem_cons.1 hr with rfl |hr
 ·simp[oP]
 ·exact hk r hr
theorem ay1(hI:nY m O b q Bd s arr y ix L bs w3 7 a w)(hN:a.tmps.size=38):wpOpIn Fence.wide k prog (cE 5) Q 19 (rD m O b q Bd s arr y ix L bs w3 7 19 a) a w:=by
 obtain⟨l,hs,hk,x5,x6,x7,B1,B2,w4,rfl,hR,hW⟩:=hI;refine xk (λa' w' hh=> ?_) (gY afL (uf aW (k:=q) rfl rfl afL.a (hs.I (x:=.tmp 32) rfl)));obtain⟨rfl,rfl⟩:=hh;refine⟨⟨_,hs.U (d:=33) av (fe b q 6),λr hr=> ?_,x5,x6,x7,B1,B2,w4,rfl,hR,hW⟩,by rw[fS];exact hN,λt ht=>rn (by rw[hN];decide) (λe=>ht e.symm) _⟩;rcases List.mem_cons.1 hr with rfl |hr
 ·simp[oP]
 ·exact hk r hr
theorem ay2(hI:nY m O b q Bd s arr y ix L bs w3 8 a w)(hN:a.tmps.size=38):wpOpIn Fence.wide k prog (cE 5) Q 20 (rD m O b q Bd s arr y ix L bs w3 8 20 a) a w:=by obtain⟨l,hs,hk,x5,x6,x7,B1,B2,w4,rfl,hR,hW⟩:=hI;have bE:=h.c;refine ym (ui aW ayy hs rfl rfl rfl rfl (L7 hR.f).1 (L7 hR.f).2 hW.c (by simp[A1,GZ];omega) λw' hp=> ?_);refine⟨⟨_,hs,hk,x5,x6,x7,B1,B2,w4,rfl,hR,⟨hW.a.D (sY hp),hp.a.trans hW.d,?_⟩⟩,hN,λt _=>rfl⟩;rw[hp.d hW.c];rfl
theorem ay3(hI:nY m O b q Bd s arr y ix L bs w3 9 a w)(hN:a.tmps.size=38)(h1:a.tmps.getD 19 undef=y)(h2:a.tmps.getD 20 undef=.int .i64 ix):wpOpIn Fence.wide k prog (cE 5) Q 21 (rD m O b q Bd s arr y ix L bs w3 9 21 a) a w:=by
 obtain⟨l,hs,hk,x5,x6,x7,B1,B2,w4,rfl,hR,hW⟩:=hI;have bm:=A2 (P:=prog) (w:=w) (a:=a) aW afM.a rfl rfl (h1.trans h.e) h2 (rR ix) (by have:=h.d;omega);rw[dE,show off+ix*(aJ 97).a=q from h.a.symm]at bm;refine xk (λa' w' hh=> ?_) (gY afM bm);obtain⟨rfl,rfl⟩:=hh;refine⟨⟨_,hs.U (d:=34) av (fe b q 0),λr hr=> ?_,x5,x6,x7,B1,B2,w4,rfl,hR,hW⟩,by rw[fS];exact hN,λt ht=>rn (by rw[hN];decide) (λe=>ht e.symm) _⟩;rcases List.mem_cons.1 hr with rfl |hr
 ·simp[oP]
 ·exact hk r hr
theorem ay4(hI:nY m O b q Bd s arr y ix L bs w3 10 a w)(hN:a.tmps.size=38):wpOpIn Fence.wide k prog (cE 5) Q 22 (rD m O b q Bd s arr y ix L bs w3 10 22 a) a w:=by
 obtain⟨l,hs,hk,x5,x6,x7,B1,B2,w4,rfl,hR,hW⟩:=hI;refine xk (λa' w' hh=> ?_) (gY afN (uf aW (k:=q) rfl rfl afN.a (hs.I (x:=.tmp 34) rfl)));obtain⟨rfl,rfl⟩:=hh;refine⟨⟨_,hs.U (d:=35) av (fe b q 7),λr hr=> ?_,x5,x6,x7,B1,B2,w4,rfl,hR,hW⟩,by rw[fS];exact hN,λt ht=>rn (by rw[hN];decide) (λe=>ht e.symm) _⟩;rcases List.mem_cons.1 hr with rfl |hr
 ·simp[oP]
 ·exact hk r hr
theorem ay5(hI:nY m O b q Bd s arr y ix L bs w3 11 a w)(hN:a.tmps.size=38):wpOpIn Fence.wide k prog (cE 5) Q 23 (rD m O b q Bd s arr y ix L bs w3 11 23 a) a w:=by obtain⟨l,hs,hk,x5,x6,x7,B1,B2,w4,rfl,hR,hW⟩:=hI;have bE:=h.c;refine ym (ui aW ayz hs rfl rfl rfl rfl (L7 hR.g).1 (L7 hR.g).2 hW.c (by simp[A1,GZ];omega) λw' hp=> ?_);refine⟨⟨_,hs,hk,x5,x6,x7,B1,B2,w4,rfl,hR,⟨hW.a.D (sY hp),hp.a.trans hW.d,?_⟩⟩,hN,λt _=>rfl⟩;rw[hp.d hW.c];rfl
end
end
section
variable{m:Nat}{O:Nat->Prop}{b q off n cap:Nat}{Bd:List Nat}{s:aa}{arr:Array Value}{y:Value}{ix L bs:Nat}{w3:World}{c5 c6 c7:Value}
def ay6(ih:DO m)(h:L8 m O b off n cap q Bd s arr y ix bs c5 c6 c7 w3){a:Act}(hw:w3={w with drawn:=w.drawn+1})(hs:bM 38 (wO y ix L bs) a)
  (eC:∀a' w' x5 x6 x7 B1 B2 w4,bM 38 (wO y ix L bs) a'->afS m O b Bd s w3 x5 x6 x7 B1 B2 w4->afT b q arr 3 x5 x6 x7 w4 w'->Q .normal a' w'):(Code.region 5 (cE 5) true).wpIn Fence.wide k prog Q a w:=by
 refine ab4 (eD:=nX) (rZ:=oO) (qY:=afP) (N:=38) (val:=λj=>(yV j,UL y ix bs c5 c6 c7 j)) (I:=nY m O b q Bd s arr y ix L bs w3) ayL hs.c ⟨_,hs,ayQ _ _ _ _,rfl,hw.symm⟩ (λj hj=>afQ j (DP▸hj)) (λj hj j7 k hk=>ayM j (DP▸hj) j7 k (DP▸hk)) ?_ ?_ ?_ ?_
 ·rintro p a w j x hj j7 ⟨l,hs,hk,hJ⟩;exact⟨l,hs.ab5 (afQ j (DP▸hj)) (afR hk (ayN j (DP▸hj) j7)) x,hk,hJ⟩
 ·intro p a w j hj j7 hI hN hn;exact ayT h p a w j (DP▸hj) j7 hI hn
 ·intro p a w hp hI hN hn;have hp:p<12:=hp;have:p=0\/p=1\/p=2\/p=3\/p=4\/p=5\/p=6\/p=7\/p=8\/p=9\/p=10\/p=11:=ab;rcases this with rfl |rfl |rfl |rfl |rfl |rfl |rfl |rfl |rfl |rfl |rfl |rfl
  ·exact ayU h hI hN (hn 7 (by simp[oO,nX]) av)
  ·exact ayV h ih hI hN (hn 10 (by simp[oO,nX]) av)
  ·exact ayW h ih hI hN (hn 13 (by simp[oO,nX]) av)
  ·exact ayX h hI hN (hn 0 (by simp[oO,nX]) av) (hn 1 (by simp[oO,nX]) av)
  ·exact ayY h hI hN
  ·exact ayZ h hI hN
  ·exact ay0 h hI hN (hn 2 (by simp[oO,nX]) av) (hn 3 (by simp[oO,nX]) av)
  ·exact ay1 h hI hN
  ·exact ay2 h hI hN
  ·exact ay3 h hI hN (hn 4 (by simp[oO,nX]) av) (hn 5 (by simp[oO,nX]) av)
  ·exact ay4 h hI hN
  ·exact ay5 h hI hN
 ·rintro a w ⟨l,hs,hk,x5,x6,x7,B1,B2,w4,rfl,hR,hW⟩;exact eC a w x5 x6 x7 B1 B2 w4 (hs.D rfl (hs.D rfl (hs.D rfl (hs.D rfl (hs.D rfl (hs.D rfl hs.V)))))) hR hW
end
structure UM(m:Nat)(l:List aa)(O:Nat->Prop)(y:Value)(b off cap:Nat)(w0:World)(i:Nat)(a:Act)(w:World):Prop where
 d:∃(done r:List aa)(Bd:List Nat)(arr:Array Value),done.length=l.length-i/\r.length=i/\l=done++r/\(b::Bd).Nodup/\(∀c∈b::Bd,w0.heap.size<=c/\c<w.heap.size)/\w.heap[b]? =some (.cells arr 97 (0,0))/\arr.size=off+cap*8/\kj w (fJ O b Bd) (iX w (fJ O b Bd) m) b off Bd done/\bN aJ w (fJ O b Bd) r 97 b (off+done.length*8)
 f:bM 38 [(3,y),(8,y),(9,.int .i64 l.length),(10,.int .i64 ((l.length-i:Nat):Int))] a
 e:cw eL w0 w
def afX{R:Ending->World->Prop}{a:Act}(hs:bM 38 [(3,y)] a)(hR:R (.returned y) w):(Code.seq (.region 7 (cE 7) false) .ret).wpIn Fence.wide k prog (bodyPost prog f36 R) a w:=by refine b8 (cT ?_);rw[ayJ];refine df ayC hs av rfl λa1 s1=>iT ayD s1 av rfl λa2 s2=> ?_;show Code.ret.wpIn Fence.wide k prog _ a2 w;refine vd ⟨s2.f,y,?_,hR⟩;rw[Nh ayK,s2.b 2 y rfl]
def ay7{s}(h:(∃cs:List Value,cs.length=(aJ 97).a/\dH w b q cs/\ax aJ w O s bh (qa (aJ 97).b cs))/\dm (aJ 97) s=s):
  ∃c0 c1 c2 c3 c4 c5 c6 c7,dH w b q [c0,c1,c2,c3,c4,c5,c6,c7]/\aF aJ w O [.c .i64 (dp s),.c .i64 (bZ s),.h (eI s),.c .i64 (iD s),.h (jJ s),.d 177 (dG s)] bh [c0,c1,c2,c3,c4,c5]/\ax aJ w O (.d 97 (aP s)) bh c6/\ax aJ w O (.d 97 (bf s)) bh c7/\dV s=s:=by
 obtain⟨⟨cs,h1,h2,h3⟩,h4⟩:=h;have hv:dV s=s:=h4;rw[<-hv]at h3;obtain⟨a,e,h3⟩:=h3;have e2:cs=a.toList:=by have:Value.agg cs.toArray=Value.agg a:=e;injection this with this;rw[<-this]
 rw[<-e2]at h3;obtain⟨c0,r0,rfl,g0,c1,r1,rfl,g1,c2,r2,rfl,g2,c3,r3,rfl,g3,c4,r4,rfl,g4,c5,r5,rfl,g5,c6,r6,rfl,g6,c7,r7,rfl,g7,rfl⟩:=h3;exact⟨c0,c1,c2,c3,c4,c5,c6,c7,h2,⟨_,_,rfl,g0,_,_,rfl,g1,_,_,rfl,g2,_,_,rfl,g3,_,_,rfl,g4,_,_,rfl,g5,rfl⟩,g6,g7,hv⟩
def ay8(h:lR (m+1) l=true):l.length<=1000/\∀s∈l,mu 20 (dG s)=true/\lR m (aP s)=true/\lR m (bf s)=true:=by rw[lR,au,bC]at h;refine⟨h.1,λs hs=> ?_⟩;have:=List.all_eq_true.1 h.2 s hs;rw[au,au]at this;exact⟨this.1.1,this.1.2,this.2⟩
def ay9{cs}(h:aF aJ w O vs bh cs)(hv:vs.all aa.pj=true):∀u∈cs,u.oneCell'=true:=aF.Fw (R:=bh) (λ_ _ h=>h.elim) h hv
def ay_(ih:DO m){w0}{i:Nat}{a:Act}(hn:l.length<=1000)(fQ:l.length<=cap)(hy:y=.slice (some ⟨b,off,none⟩) l.length cap)(EP:gj aJ cO O w0)(pf:∀s∈l,mu 20 (dG s)=true/\lR m (aP s)=true/\lR m (bf s)=true)
  (hI:UM m l O y b off cap w0 (i+1) a w)(jO:i+1<=l.length)(hQ:∀a' w',UM m l O y b off cap w0 i a' w'->Q .normal a' w'):
  (Code.seq (.block 1 (.seq (.region 4 (cE 4) false) (.region 5 (cE 5) true))) (.region 6 (cE 6) false)).wpIn Fence.wide k prog Q a w:=by
 obtain⟨⟨done,r,Bd,arr,e1,e2,e3,cP,j8,hb,bE,zD,EV⟩,hs,gW⟩:=hI;obtain⟨s,r,rfl⟩:∃s q,r=s::q:=by
  cases r with
  |nil=>cases e2
  |cons s q=>exact⟨s,q,rfl⟩
 have Zb:=pf s (by rw[e3];simp);obtain⟨q,hq⟩:∃q,q=off+done.length*8:=⟨_,rfl⟩
 rw[<-hq]at EV;obtain⟨⟨_,qQ⟩,fE,EV⟩:=EV;obtain⟨c0,c1,c2,c3,c4,c5,c6,c7,zH,zG,akE,akF,vk⟩:=ay7 ⟨fE,qQ⟩;have Cg:done.length<l.length:=ab;have aL7:q+8<=arr.size:=by have:done.length+1<=cap:=ab;omega
 have zI:((l.length- (i+1):Nat):Int).toNat=done.length:=by rw[dE,e1]
 refine b8 (lx (b8 (cT ?_)));rw[ayH];refine df ayo hs av rfl λa1 s1=>ru aW ayp s1 av rfl rfl (dh some hy) rfl ab ab λa2 s2=> ?_;rw[zI,show off+done.length*(aJ 97).a=q from hq.symm]at s2;refine C1 aW ayq s2 av rfl rfl rfl zH rfl λa3 s3=>ab6 aW ayr s3 av rfl λa4 z hz s4=>iT ays s4 av rfl λa5 s5=> ?_;have akG:z.size=8:=hz;have xw:∀u∈ [c0,c1,c2,c3,c4,c5,c6,c7],u.oneCell'=true:=by have il:aF aJ w (fJ O b Bd) [.c .i64 (dp s),.c .i64 (bZ s),.h (eI s),.c .i64 (iD s),.h (jJ s),.d 177 (dG s),.d 97 (aP s),.d 97 (bf s)] bh [c0,c1,c2,c3,c4,c5,c6,c7]:=aF.U zG ⟨_,_,rfl,akE,_,_,rfl,akF,rfl⟩;exact ay9 il rfl
 refine ab7 aW ayt s5 rfl rfl rfl rfl xw (ji w _) (by simp[akG]) λw2 hp=> ?_;have Zc:=hp.i (ji w _);have Zc:w2.heap[w.heap.size]? =some (.cells #[c0,c1,c2,c3,c4,c5,c6,c7] 97 (0,0)):=by rw[Zc];have:z.toList.drop 8=[]:=List.drop_eq_nil_iff.2 (by simp[akG]);simp[this]
 have dw:cw eL w w2:=⟨hp.f,hp.g,hp.h,by rw[hp.a];simp,λc hc _=>(hp.d c ab).trans (zZ w _ hc)⟩
 have aL8:w2.heap.size=w.heap.size+1:=by rw[hp.a];simp
 obtain⟨w3,q0⟩:∃w3,w3={w2 with drawn:=w2.drawn+1}:=⟨_,rfl⟩
 have xJ:w3.heap=w2.heap:=by rw[q0]
 have j3:cw eL w w3:=by rw[q0];exact⟨dw.f,dw.i,dw.j,dw.d,dw.a⟩
 have N5:=mY hb;have ky:cz w w3 (fJ O b Bd) (fJ O b Bd):=rC j3 λc hc=>.inl hc;have gG:∀j u,#[c0,c1,c2,c3,c4,c5,c6,c7][j]? =some u->w3.cell? ⟨w.heap.size,j,none⟩=some u:=λj u hu=>by simp only[World.cell?,xJ,Zc];exact hu
 have aL9:∀c,fJ O b Bd c->c<w.heap.size:=λc hc=>by
  rcases hc with h |rfl |h
  ·exact dJ (EP.a c h) gW.d
  ·exact N5
  ·exact(j8 c (by simp[h])).2
 have om:gj aJ cO (fJ O b Bd) w3:=EP.D (rC (gW.D j3) λc hc=>by
  rcases hc with h |rfl |h
  ·exact .inl h
  ·exact .inr (j8 _ aB).1
  ·exact .inr (j8 c (by simp[h])).1) λc hc=>dJ (aL9 c hc) j3.d
 have Zd:=List.nodup_cons.1 cP;obtain⟨x,hx,g5⟩:=aF.vU 5 (aa.d 177 (dG s)) zG rfl;cases hx;have hH:L8 m O b off l.length cap q Bd s arr y done.length w.heap.size c5 c6 c7 w3:=⟨by rw[xJ];exact(hp.d b ab).trans ((zZ w _ N5).trans hb),hq,aL7,Cg,hy,by rw[xJ,aL8];omega,ab,gG 5 _ rfl,gG 6 _ rfl,gG 7 _ rfl,om,
  ax.D ky _ _ _ _ (λ_ _ h=>h) g5,ax.D ky _ _ _ _ (λ_ _ h=>h) akE,ax.D ky _ _ _ _ (λ_ _ h=>h) akF,Zb.1,Zb.2.1,Zb.2.2⟩
 rw[<-e1]at s5;show(Code.region 5 (cE 5) true).wpIn Fence.wide k prog _ a5 w2;refine ay6 (L:=l.length) ih hH q0 (s5.D rfl (s5.D rfl (s5.D rfl (s5.D rfl (s5.D rfl (s5.D rfl s5.V)))))) λa6 w' x5 x6 x7 B1 B2 w4 s6 hR hW=> ?_;show(Code.region 6 (cE 6) false).wpIn Fence.wide k prog _ a6 w';refine cT ?_;rw[ayI];refine yl ayA s6 av rfl rfl λa7 s7=>df ayB s7 av rfl λa8 s8=> ?_;rw[ep ab ab,show(done.length:Int)+1=((l.length-i:Nat):Int)from ab]at s8;have aL_:=j3.d;have aLK:=hR.a.d;have YZ:=hW.d;have same:∀c,c<w.heap.size->c≠b->w'.heap[c]? =w.heap[c]? :=λc hc bL=>(hW.a.a c ab bL).trans ((hR.a.a c ab λh=>h).trans (j3.a c hc λh=>h));have hk':cz w w' (fJ O b Bd) (fJ O b (Bd++(B1++B2))):=⟨ab,λc hc hO=>same c hc λe=>hO (.inr (.inl e)),λc hc hO hO'=>by
  rcases hO' with h |h |h
  ·exact hO (.inl h)
  ·exact hO (.inr (.inl h))
  ·rcases List.mem_append.1 h with h |h
   ·exact hO (.inr (.inr h))
   ·have:=(hR.d c h).1;omega⟩
 have o9:cz w4 w' (fJ O b (Bd++(B1++B2))) (fJ O b (Bd++(B1++B2))):=⟨ab,λc hc hO=>hW.a.a c hc λe=>hO (.inr (.inl e)),λ_ _ h=>h⟩
 have aL':∀j,w.cell? ⟨b,j,none⟩=arr.toList[j]? :=λj=>by simp[World.cell?,hb]
 have N6:∀j,w'.cell? ⟨b,j,none⟩=(A1 q arr 3 x5 x6 x7)[j]? :=λj=>by simp[World.cell?,hW.c]
 have cell_ne:∀j,j≠q+5->j≠q+6->j≠q+7->w'.cell? ⟨b,j,none⟩=w.cell? ⟨b,j,none⟩:=λj h5 h6 h7=>by rw[aL',N6];show(((arr.toList.set (q+5) x5).set (q+6) x6).set (q+7) x7)[j]? =_;rw[vf (lY h7),vf (lY h6),vf (lY h5)]
 have Ze:∀c∈B1++B2,c≠b:=λc hc e=>by have:=(hR.d c hc).1;omega
 refine hQ a8 w' ⟨⟨done++ [s],r,Bd++(B1++B2),_,by simp;omega,by simpa using e2,by rw[e3];simp,?_,?_,hW.c,?_,?_,?_⟩,s8.D rfl (s8.D rfl (s8.D rfl (s8.D rfl s8.V))),?_⟩
 ·refine List.nodup_cons.2 ⟨λh=> ?_,List.nodup_append.2 ⟨Zd.2,hR.h,λc h1 d h2 e=> ?_⟩⟩
  ·rcases List.mem_append.1 h with h |h
   ·exact Zd.1 h
   ·exact Ze b h rfl
  ·subst e;have:=(j8 c (by simp[h1])).2;have:=(hR.d c h2).1;omega
 ·intro c hc;rcases List.mem_cons.1 hc with rfl |hc
  ·have:=(j8 c aB).1;omega
  ·rcases List.mem_append.1 hc with h |h
   ·have:=j8 c (by simp[h]);omega
   ·have:=hR.d c h;have:=gW.d;omega
 ·simp[A1];exact bE
 ·refine kj.U.2 ⟨Bd,B1++B2,rfl,?_,B1++B2,[],aB,?_,rfl⟩
  ·refine zD.I (λB' l' x' hB hd=>hd.D (λc hc=>same c (j8 c (by simp[hB c hc])).2 λe=> ?_) hk') (λj h1 h2=>cell_ne j ab ab ab) hk';exact Zd.1 (e▸hB c hc)
  ·rw[<-hq];obtain⟨u0,_,v0,g0,u1,_,v1,g1,u2,_,v2,g2,u3,_,v3,g3,u4,_,v4,g4,u5,_,v5,_,v6⟩:=zG;cases v0;cases v1;cases v2;cases v3;cases v4;cases v5;have fl:∀{v:aa}{x:Value},ax aJ w (fJ O b Bd) v bh x->ax aJ w' (fJ O b (Bd++(B1++B2))) v bh x:=λh=>ax.D hk' _ _ _ _ (λ_ _ h=>h) h;refine⟨B1,B2,_,_,_,_,_,x5,x6,x7,rfl,λj u hj=> ?_,⟨_,_,rfl,fl g0,_,_,rfl,fl g1,_,_,rfl,fl g2,_,_,rfl,fl g3,_,_,rfl,fl g4,_,_,rfl,ax.D o9 _ _ _ _ (λ_ _ h=>h) hR.e,rfl⟩,hR.f.D (λc hc=>hW.a.a c (hR.d c (by simp[hc])).2 (Ze c (by simp[hc]))) o9,hR.g.D (λc hc=>hW.a.a c (hR.d c (by simp[hc])).2 (Ze c (by simp[hc]))) o9,vk⟩;match j,hj with
   |0,hj=>rw[cell_ne _ ab ab ab];exact zH 0 u hj
   |1,hj=>rw[cell_ne _ ab ab ab];exact zH 1 u hj
   |2,hj=>rw[cell_ne _ ab ab ab];exact zH 2 u hj
   |3,hj=>rw[cell_ne _ ab ab ab];exact zH 3 u hj
   |4,hj=>rw[cell_ne _ ab ab ab];exact zH 4 u hj
   |5,hj=>cases hj;rw[N6];show(((arr.toList.set (q+5) x5).set (q+6) x6).set (q+7) x7)[q+5]? =_;rw[vf ab,vf ab,EE (by simp;omega)]
   |6,hj=>cases hj;rw[N6];show(((arr.toList.set (q+5) x5).set (q+6) x6).set (q+7) x7)[q+6]? =_;rw[vf ab,EE (by simp;omega)]
   |7,hj=>cases hj;rw[N6];show(((arr.toList.set (q+5) x5).set (q+6) x6).set (q+7) x7)[q+7]? =_;rw[EE (by simp;omega)]
   |j+8,hj=>simp at hj
 ·have e:off+(done++ [s]).length*8=q+8:=by simp;omega
  rw[e];exact aft hk' r (q+8) (λj hj=>cell_ne j ab ab ab) EV
 ·have mH:=(j8 b aB).1;refine⟨hW.a.f.trans (hR.a.f.trans (j3.f.trans gW.f)),hW.a.i.trans (hR.a.i.trans (j3.i.trans gW.i)),hW.a.j.trans (hR.a.j.trans (j3.j.trans gW.j)),by have:=gW.d;omega,λc hc _=>(same c (dJ hc gW.d) ab).trans (gW.a c hc λh=>h)⟩
def afY(ih:l≠ []->DO m)(x O w)(k:Nat)(hg:gj aJ cO O w)(hr:ax aJ w O (.d 97 l) bh x)(hk:lR (m+1) l=true):
  CallsIn Fence.wide k prog 36 #[x] w λe w'=>∃y B,e=.returned y/\cw eL w w'/\B.Nodup/\(∀b∈B,w.heap.size<=b/\b<w'.heap.size)/\iX w' (λc=>O c\/c∈B) (m+1) B l y:=by
 obtain⟨hn,pf⟩:=ay8 hk;refine BC func36 afu trivial ?_;rw[ayg];have s0:bM 38 [(0,x)] _:=FX (vs:=[x]) aB;refine b8 (cT ?_);rw[ayE];refine iT ayh s0 av rfl λa1 s1=> ?_;show Code.wpIn Fence.wide k prog _ _ a1 w;refine b8 (cT ?_);rw[ayF];refine df ayi s1 av rfl λa2 s2=>oG ayj s2 UH (vs:=[x]) (by simp[s2.I (x:=.tmp 6) rfl]) (aye (k-1) hg hr hn) λe w1 ⟨y,he,hc,vp⟩=>⟨y,he,?_⟩
 have s3:=s2.U (d:=7) av y;refine iT ayk s3 av rfl λa4 s4=> ?_;show Code.wpIn Fence.wide k prog _ _ a4 w1;obtain⟨ad,cap,jy⟩:∃ad cap,y=.slice ad l.length cap:=by
  rcases vp with⟨rfl,a,c,rfl⟩ | ⟨b,off,cap,arr,_,_,rfl,_⟩
  ·exact⟨a,c,rfl⟩
  ·exact⟨_,cap,rfl⟩
 refine b8 (b8 (cT ?_));rw[ayG];refine df ayl s4 av rfl λa5 s5=>Ag aW aym s5 av rfl (dh some jy) λa6 s6=>df ayn s6 av rfl λa7 s7=> ?_;show Code.wpIn Fence.wide k prog _ _ a7 w1;rcases vp with⟨rfl,a,c,rfl⟩ | ⟨b,off,pV,arr,xz,IQ,hy,fQ,hb,bE,jw⟩
 ·
  refine lx (uc (λ(_:Unit) a' w'=>bM 38 [(3,.slice a 0 c),(9,.int .i64 0),(10,.int .i64 0)] a'/\w'=w1) (λ_=>0) () ⟨s7.D rfl (s7.D rfl (s7.D rfl s7.V)),rfl⟩ ?_);rintro _ a8 w8 ⟨s8,rfl⟩;refine b8 (cT ?_);rw[afO];refine CZ afv s8 av rfl rfl λa9 s9=> ?_;refine b8 (fY (t:=false) (s9.I (x:=.tmp 11) rfl) (qL ?_));show Code.wpIn Fence.wide k prog _ _ a9 w8;exact afX (s9.D rfl s9.V) ⟨_,[],rfl,hc,Ew,aB,.inl ⟨rfl,rfl,a,c,rfl⟩⟩
 ·have N5:=mY hb;refine lx (uc (UM m l O y b off pV w) id l.length ⟨⟨[],l,[],arr,aB,rfl,rfl,aB,λc hc'=> ?_,hb,bE,rfl,?_⟩,?_,hc⟩ ?_)
  ·simp at hc';subst hc';exact⟨xz,N5⟩
  ·refine bN.D (cz.D λc hc'=> ?_) _ _ _ _ rfl jw;rcases hc' with h |h |h
   ·exact .inl h
   ·exact .inr h
   ·cases h
  ·rw[ni];exact s7.D rfl (s7.D rfl (s7.D rfl (s7.D rfl s7.V)))
  ·intro i a8 w8 hI;refine b8 (cT ?_);rw[afO];refine CZ afv hI.f av rfl rfl λa9 s9=> ?_;cases i with
   |zero=>
    have h8:a9.eval (.tmp 11)=.bool false:=by rw[s9.I (x:=.tmp 11) rfl];exact dh Value.bool (ly ab)
    refine b8 (fY (t:=false) h8 (qL ?_));show Code.wpIn Fence.wide k prog _ _ a9 w8;obtain⟨done,r,Bd,akH,e1,e2,e3,cP,j8,aMa,aNd,zD,_⟩:=hI.d;obtain rfl:=List.length_eq_zero_iff.1 e2;rw[zk]at e3;subst e3;have hle:∀c,(O c\/c∈b::Bd)->fJ O b Bd c:=λc hc'=>by
     rcases hc' with h |h
     ·exact .inl h
     ·rcases List.mem_cons.1 h with h |h
      ·exact .inr (.inl h)
      ·exact .inr (.inr h)
    refine afX (s9.D rfl s9.V) ⟨_,b::Bd,rfl,hI.e,cP,j8,.inr ⟨b,off,pV,akH,Bd,rfl,IQ,hy,fQ,aMa,ab,zD.I (λB' l' x' _ hd=>hd.D (λ_ _=>rfl) (cz.D hle)) (λ_ _ _=>rfl) (cz.D hle)⟩⟩
   |succ i=>
    have jO:i+1<=l.length:=by obtain⟨done,r,Bd,akH,e1,e2,e3,_⟩:=hI.d;have:=dh List.length e3;simp at this;omega
    have h8:a9.eval (.tmp 11)=.bool true:=by rw[s9.I (x:=.tmp 11) rfl];exact dh Value.bool (aD ab)
    refine b8 (fY (t:=true) h8 (nj ?_));exact ay_ (ih IQ) hn fQ hy hg pf ⟨hI.d,s9.D rfl (s9.D rfl (s9.D rfl (s9.D rfl s9.V))),hI.e⟩ jO λa' w' hh=>⟨i,hh,zp i⟩
def afZ:∀m,DO m
 |0=>λl x O w k hg hr hk=>by
  have hl:l=[]:=List.isEmpty_iff.1 hk;subst hl;refine(afY (m:=0) (l:=[]) (λh=>absurd rfl h) x O w k hg hr rfl).mono λe w' ⟨y,B,h1,h2,h3,h4,h5⟩=>⟨y,B,h1,h2,h3,h4,?_⟩
  rcases h5 with h5 | ⟨_,_,_,_,_,_,h6,_⟩
  ·exact h5
  ·exact absurd rfl h6
 |m+1=>λl x O w k hg hr hk=>afY (λ_=>afZ m) x O w k hg hr hk
section
variable{w w':World}{O O':Nat->Prop}
def UN:∀{m:Nat}{B:List Nat}{l:List aa}{x:Value},iX w O m B l x->(∀c∈B,¬O' c)->(∀c,O' c->O c)->ax aJ w O' (.d 97 l) bh x
 |0,B,l,x,h,_,_=>by obtain⟨_,rfl,a,c,rfl⟩:=h;exact⟨a,c,rfl,ik _,.inl rfl⟩
 |m+1,B,l,x,h,hB,hO=>by
  rcases h with⟨_,rfl,a,c,rfl⟩ | ⟨b,off,cap,arr,B',rfl,h1,rfl,h3,h4,h5,h6⟩
  ·exact⟨a,c,rfl,ik _,.inl rfl⟩
  ·refine⟨_,cap,rfl,h3,.inr ⟨b,off,rfl,mY h4,hB b aB,?_⟩⟩;have key:∀(l:List aa)(off:Nat)(B':List Nat),(∀c∈B',¬O' c)->kj w O (iX w O m) b off B' l->bN aJ w O' l 97 b off:=by
    intro l;induction l with
    |nil=>intro _ _ _ _;trivial
    |cons v l ih=>
     intro off B' hB' h;obtain⟨B1,B2,rfl,⟨B3,B4,c0,c1,c2,c3,c4,c5,x,y,rfl,g1,g2,g3,g4,g5⟩,h2⟩:=h;have hr:aF aJ w O' [.c .i64 (dp v),.c .i64 (bZ v),.h (eI v),.c .i64 (iD v),.h (jJ v),.d 177 (dG v),.d 97 (aP v),.d 97 (bf v)] bh [c0,c1,c2,c3,c4,c5,x,y]:=
      aF.U (aF.D (cz.D hO) _ _ _ _ (λ_ _ h=>h) g2) ⟨_,_,rfl,UN g3 (λc hc=>hB' c (by simp[hc])) hO,_,_,rfl,UN g4 (λc hc=>hB' c (by simp[hc])) hO,rfl⟩
     refine⟨⟨?_,g5⟩,⟨[c0,c1,c2,c3,c4,c5,x,y],rfl,g1,?_⟩,ih _ _ (λc hc=>hB' c (by simp[hc])) h2⟩
     ·rw[<-g5];rfl
     ·rw[<-g5];exact⟨_,rfl,hr⟩
   exact key l off B' (λc hc=>hB c (by simp[hc])) h6
end
noncomputable def d_(k:Nat):Array Oper:=(rp k (f18.body.getD .skip)).getD #[]
def ay':f18.body=some (.seq (.region 0 (d_ 0) false) (.seq (.seq (.region 1 (d_ 1) false) (.cond (.tmp 16) (.seq (.region 2 (d_ 2) false) .ret) .skip)) (.seq (.region 3 (d_ 3) false) (.seq (.seq (.region 4 (d_ 4) false) (.block 0 (.loop (.seq (.region 5 (d_ 5) false) (.seq (.cond (.tmp 26) .skip (.exit 0)) (.seq (.block 1 (.seq (.region 6 (d_ 6) false) (.seq (.region 7 (d_ 7) false) (.seq (.region 8 (d_ 8) false) (.seq (.region 9 (d_ 9) false) (.region 10 (d_ 10) true)))))) (.region 11 (d_ 11) false))))))) (.seq (.region 12 (d_ 12) false) .ret))))):=ae
def aza:f18.ntmps=58:=ae
def A3(k j:Nat):Oper:=((d_ k)[j]?).getD default
def azb:=aM d_ A3 8 0 (.fieldAddr 43 (.tmp 5) 3) (some 30)
def azc:=aM d_ A3 8 1 (.load 41 (.tmp 30)) (some 31)
def azd:=aM d_ A3 8 2 (.call ⟨.value (.func 36),#[.tmp 31],#[41]⟩) (some 32)
def aze:=aM d_ A3 8 3 (.assign (.tmp 32)) (some 7)
def azf:=aM d_ A3 9 0 (.move (.tmp 7)) (some 33)
def af0:=aM d_ A3 9 1 (.makeFunc (.func 38) #[] #[.tmp 6]) (some 34)
def azg:=aM d_ A3 9 2 (.call ⟨.value (.func 37),#[.tmp 33,.tmp 34],#[41,98]⟩) (some 35)
def azh:List.range (d_ 8).size=[0,1,2,3]:=ae
def azi:List.range (d_ 9).size=[0,1,2]:=ae
def yX:List Nat:=[2,3,4,5,6,23,24,25]
def L9:List Nat:=[2,3,4,5,6,7,23,24,25]
def G1(l:List aa)(i n:Int):List aa:=[.e 0 0,.e 1 0,.c .i64 i,.e 2 0,.e 3 0,.d 43 l,.c .i64 n,.c .i64 i]
def af1(l bo:List aa)(i n:Int):List aa:=[.e 0 0,.e 1 0,.c .i64 i,.e 2 0,.e 3 0,.d 97 bo,.d 43 l,.c .i64 n,.c .i64 i]
def ll(q:List aa)(k:Nat)(f:List aa)(c:Int):List aj:=[.a false [.w],.a false [.y 43 4 0 k],.a false f,.a false [.c .i64 c],.b false 0 43 q]
def azj{a:Act}{o}{g:FuncId}{x}(ho:o.op=.makeFunc (.func g) #[] #[x]):(execOp a.eval o).run P w=.ok (.value (.func (.func g) #[] #[a.eval x])) w:=by simp[execOp,ho,Instr.makeFunc]
def UO{ks:List Nat}{t:Nat}(h:t∉ks):(dx ks vs os).b t=.m:=by
 have key:∀(l:List (Nat×aa)),(∀p∈l,p.1≠t)->fy .m l t=.m:=by
  intro l;induction l with
  |nil=>intro _;rfl
  |cons p l ih=>
   intro hp;unfold fy;split
   ·rename_i hb;exact absurd (iZ hb).symm (hp p aB)
   ·exact ih λq hq=>hp q (by simp[hq])
 refine key _ λp hp e=>h ?_;rw[<-e];exact(List.of_mem_zip hp).1
def uP{N:Nat}{l:lJ}{a:Act}(h:bM N l a){t:Nat}{v}(hv:a.tmps.getD t undef=v):bM N ((t,v)::l) a:=⟨h.c,h.f,λu x hu=>by
 unfold AH.mS at hu;split at hu
 ·rename_i hb;injection hu with hu;rw[<-iZ hb,<-hu];exact hv
 ·exact h.b u x hu⟩
def azk(q)(k:Nat)(f)(c:Int):bO (a_ (ll q k f 0)) 3 (.a false [.c .i64 c])=a_ (ll q k f c):=by
 funext i
 match i with
 |0=>rfl
 |1=>rfl
 |2=>rfl
 |3=>rfl
 |4=>rfl
 |i+5=>rw[fj _ _ ab];rfl
section
variable{E:bD}{Z:Nat->Prop}{lo:Nat}{β:Nat->AH.bd}{w w':World}{a a':Act}
def azl{n:Nat}{s:bu}(r:bA E Z n lo ⟨false,[]⟩ s β a w)(bE:a'.tmps.size=n)(tR:a'.defers=[])(h:∀t,s.b t=.m\/a'.tmps.getD t undef=a.tmps.getD t undef):bA E Z n lo ⟨false,[]⟩ s β a' w:=by
 refine⟨r.f,λt=> ?_,bE,by rw[tR];exact gg.I fR.I⟩;rcases h t with h |h
 ·rw[h];exact trivial
 ·rw[h];exact r.m t
def azm{n:Nat}{s:bu}(r:bA E Z n lo ⟨false,[]⟩ s β a w){d:Nat}(hv:ax E.a w (AH.aY Z s.a β) v (bW E.a s.a β) (a.tmps.getD d undef)):bA E Z n lo ⟨false,[]⟩ {s with b:=bO s.b d v} β a w:=by
 refine⟨r.f,λt=> ?_,r.p,r.z⟩;by_cases ht:t=d
 ·subst ht;show ax _ _ _ (bO s.b t v t) _ _;rw[dt];exact hv
 ·show ax _ _ _ (bO s.b d v t) _ _;rw[fj _ _ ht];exact r.m t
def azn(hT:E.a=aJ)(hG:E.b=cO){q}{rs ct:Int}(r:bA E Z 58 lo ⟨false,[]⟩ (dx yX (G1 l i n) (ll q k [.h nm,.d 101 ps,.c .i64 rs,.d 97 bo,.c .i64 ct] 0)) β a w)
  (hk:lR 20 bo=true)(aMb:(bQ 20 bo 0).2<=9223372036854775807){kn:Nat}{c}
  (hQ:∀a' w',bA E Z 58 lo ⟨false,[]⟩ (dx L9 (af1 l (bQ 20 bo 0).1 i n) (ll q k [.h nm,.d 101 ps,.c .i64 rs,.d 97 bo,.c .i64 ct] (bQ 20 bo 0).2)) β a' w'->
   dF (a_ (ll q k [.h nm,.d 101 ps,.c .i64 rs,.d 97 bo,.c .i64 ct] 0)) β w (a_ (ll q k [.h nm,.d 101 ps,.c .i64 rs,.d 97 bo,.c .i64 ct] (bQ 20 bo 0).2)) β w'->c.wpIn Fence.wide kn prog Q a' w'):
  (Code.seq (.region 8 (d_ 8) false) (.seq (.region 9 (d_ 9) false) c)).wpIn Fence.wide kn prog Q a w:=by
 obtain⟨fs,rT⟩:∃fs,fs=[aa.h nm,.d 101 ps,.c .i64 rs,.d 97 bo,.c .i64 ct]:=⟨_,rfl⟩
 rw[<-rT]at r hQ;have x5:a.tmps.getD 5 undef=.pointer (some ⟨(β 2).a,0,none⟩):=(r.m 5).2;have x6:a.tmps.getD 6 undef=.pointer (some ⟨(β 3).a,0,none⟩):=(r.m 6).2;obtain⟨aNe,arf,ef,E4,Ca⟩:=r.f.c 2;obtain⟨Y',arn,en,akI,aMc⟩:=r.f.c 3;have Ca:aF E.a w _ fs _ (arf.toList.take fs.length):=Ca;have Y_:fs[3]? =some (.d 97 bo):=by rw[rT];rfl
 obtain⟨x,lB,cL⟩:=aF.vU 3 _ Ca Y_;have lB:arf.toList[3]? =some x:=by
  rw[rP]at lB;split at lB
  ·exact lB
  ·cases lB
 have gG:w.cell? ⟨(β 2).a,3,none⟩=some x:=by simpa[World.cell?,E4] using lB
 rw[hT]at cL;have cL:ax aJ w (AH.aY Z (a_ (ll q k fs 0)) β) (.d 97 bo) bh x:=cL;have om:gj aJ cO (AH.aY Z (a_ (ll q k fs 0)) β) w:=by have:=r.aoi;rw[hT,hG]at this;exact this
 have tI:pE w (β 3).a 0:=⟨arn,en,akI,by
  obtain⟨y,rr,e1,e2,_⟩:=aMc;have e2:y=.int .i64 0:=e2;cases hl:arn.toList with
  |nil=>rw[hl]at e1;cases e1
  |cons u v=>
   rw[hl]at e1;have e1:u::_=y::rr:=e1;injection e1 with e1;rw[e1,e2];rfl⟩
 have s0:bM 58 [(2,a.tmps.getD 2 undef),(3,a.tmps.getD 3 undef),(4,a.tmps.getD 4 undef),(5,.pointer (some ⟨(β 2).a,0,none⟩)),(6,.pointer (some ⟨(β 3).a,0,none⟩)),(23,a.tmps.getD 23 undef),(24,a.tmps.getD 24 undef),(25,a.tmps.getD 25 undef)] a:=by
  have e:bM 58 [] a:=⟨r.p,r.I,λt v ht=>by cases ht⟩
  exact uP (uP (uP (uP (uP (uP (uP (uP e rfl) rfl) rfl) x6) x5) rfl) rfl) rfl
 refine b8 (cT ?_);rw[azh];refine CY aW azb s0 av rfl rfl rfl λa1 s1=>sK aW azc s1 av rfl rfl rfl gG λa2 s2=>oG azd s2 UI (vs:=[x]) (by simp[s2.I (x:=.tmp 31) rfl]) (afZ 20 bo x _ w (kn-1) om cL hk) λe w1 ⟨y,B,he,hc,cP,j8,aMd⟩=>⟨y,he,?_⟩
 refine iT aze (s2.U (d:=32) av y) av rfl λa4 s4=> ?_;show Code.wpIn Fence.wide kn prog _ _ a4 w1;refine b8 (cT ?_);rw[azi];have pc:(β 3).a<w.heap.size:=mY akI;have akJ:cQ (a_ (ll q k fs 0)) β 3:=⟨rfl,Y'⟩
 refine df azf s4 av rfl λa5 s5=>lK af0 s5 av (x:=wL (β 3).a) (by rw[azj af0.a,s5.I (x:=.tmp 6) rfl];rfl) λa6 s6=> ?_;refine oG azg s6 UC (vs:=[y,wL (β 3).a]) (by simp[s6.I (x:=.tmp 33) rfl,s6.I (x:=.tmp 34) rfl]) (afj 20 B bo y _ (β 3).a w1 0 (kn-1) aMd cP (λh=>by have:=(j8 _ h).1;omega) (λc hc=>.inr hc) (.inl (.inr ⟨3,akJ,rfl⟩)) (tI.I (hc.a _ pc λh=>h)) (j1 0) aMb) λe w2 ⟨⟨v,hv⟩,h12,je,oh⟩=>⟨v,hv,?_⟩
 have s9:=s6.U (d:=35) av v;obtain⟨a9,aMe⟩:∃a',a'=a6.put (some 35) v:=⟨_,rfl⟩
 rw[<-aMe]at s9⊢;show c.wpIn Fence.wide kn prog Q a9 w2;have aMf:∀b∈B,¬AH.aY Z (a_ (ll q k fs 0)) β b:=λb hb ho=>by have:=r.ab_ b ho;have:=(j8 b hb).1;omega
 have r1:bA E (λc=>Z c\/c∈B) 58 lo ⟨false,[]⟩ (dx yX (G1 l i n) (ll q k fs 0)) β a w1:=r.abK ⟨hc.d,λb hb _=>hc.a b hb λh=>h,λb hb=>hb.imp id λh=>(j8 b h).1,λb hb=>by
  rcases hb with h |h
  ·exact dJ (r.f.m b h) hc.d
  ·exact(j8 b h).2⟩ λj ha hn=>r.ab9 j ha hn
 have r2:=r1.aoj (j:=3) (x:=0) (x':=(bQ 20 bo 0).2) (w':=w2) rfl (Bz:=(· ∈B)) (λc h=>.inr h) h12.d (λc hc h1 h2=>h12.a c hc λh=>h.elim h1 h2) oh;have r3:=r2.an_ (Z':=Z) λb h=>.inl h;rw[show({dx yX (G1 l i n) (ll q k fs 0)with a:=bO (dx yX (G1 l i n) (ll q k fs 0)).a 3 (.a false [.c .i64 (bQ 20 bo 0).2])}:bu)=dx yX (G1 l i n) (ll q k fs (bQ 20 bo 0).2)by
  show bu.mk _ (bO (a_ (ll q k fs 0)) 3 _) _=_;rw[azk];rfl]at r3
 have r4:=azl (a':=a9) r3 s9.c s9.f λt=>by
  by_cases ht:t∈yX
  ·right;simp only[yX,jc,oZ,og]at ht;rcases ht with rfl |rfl |rfl |rfl |rfl |rfl |rfl |rfl
   ·exact s9.b 2 _ rfl
   ·exact s9.b 3 _ rfl
   ·exact s9.b 4 _ rfl
   ·exact(s9.b 5 _ rfl).trans x5.symm
   ·exact(s9.b 6 _ rfl).trans x6.symm
   ·exact s9.b 23 _ rfl
   ·exact s9.b 24 _ rfl
   ·exact s9.b 25 _ rfl
  ·exact .inl (UO ht)
 have iu:∀j,cQ (a_ (ll q k fs (bQ 20 bo 0).2)) β j->cQ (a_ (ll q k fs 0)) β j:=λj mj=>by
  match j,mj with
  |0,mj=>exact mj
  |1,mj=>exact mj
  |2,mj=>exact mj
  |3,mj=>exact⟨rfl,mj.2⟩
  |4,mj=>exact mj
  |j+5,mj=>exact mj
 have xy:∀c,AH.aY Z (a_ (ll q k fs (bQ 20 bo 0).2)) β c->AH.aY Z (a_ (ll q k fs 0)) β c:=λc hc=>by
  rcases hc with h | ⟨j,mj,e⟩
  ·exact .inl h
  ·exact .inr ⟨j,iu j mj,e⟩
 have r5:=azm (d:=7) (v:=.d 97 (bQ 20 bo 0).1) r4 (by
  rw[s9.b 7 y rfl,hT];exact ax.D (cz.D λ_ h=>h) _ bh _ _ (λ_ _ h=>h.elim) (UN je (λb hb ho=>aMf b hb (xy b ho)) λc hc=>.inl (xy c hc)))
 refine hQ a9 w2 (r5.abY rfl λt=> ?_) ⟨h12.f.trans hc.f,h12.i.trans hc.i,h12.j.trans hc.j,eb hc.d h12.d,λb hb hm=> ?_,λj mj=>.inl ⟨j,iu j mj,rfl⟩,λj=> ?_⟩
 ·by_cases ht:t∈L9
  ·left;simp only[L9,jc,oZ,og]at ht;rcases ht with rfl |rfl |rfl |rfl |rfl |rfl |rfl |rfl |rfl<;>rfl
  ·exact .inr (UO ht)
 ·refine(h12.a b (dJ hb hc.d) λh=> ?_).trans (hc.a b hb λh=>h);rcases h with h |h
  ·have:=(j8 b h).1;omega
  ·exact hm 3 akJ h.symm
 ·match j with
  |0=>exact iz.D _ _
  |1=>exact iz.D _ _
  |2=>exact iz.D _ _
  |3=>exact⟨⟨_,_,rfl⟩,rfl⟩
  |4=>exact iz.D _ _
  |j+5=>trivial
end
def af2:=aR 18 yq ae
def azo:=aR 33 Rm ae
def sZ(f:aa):Bool:=fm (fo f) (iE f) (jY f) (eJ f)
def UP(e:TypeId):aq
 | [.d t vs],[]=>.I (Nat.beq t e &&decide (vs.length<=eU)) (.c vs.isEmpty (.g (.a (.d e []) [])) (.g (.a (.y e 0 0 vs.length) [.b false 0 e vs])))
 |_,_=>.d
def azp{f:FuncId}{e:TypeId}(h:ck T G P f (kH e)):ck T G P f (UP e):=by
 intro args ao out cM;unfold UP at cM;split at cM
 ·rename_i t vs;obtain⟨h1,h2⟩:=aO cM;rw[au,bC]at h1;cases vs with
  |nil=>exact h _ _ out h2
  |cons v r=>refine h _ _ out ?_;unfold kH;simp only[h1.1];exact aZ (aD h1.2) h2
 ·cases cM
def azq:aH 35 (kH 43):=yf aW func35 ae ae ac4 ae ae ac5
def azr:aH 39 (kH 101):=yf aW func39 ae ae ac6 ae ae ac7
def azs(nm ps rs bo ct):(aI (ay an (aL [(34,Gu)]) Rm aK) false f33 [.u [.h nm,.d 101 ps,ah rs,.d 97 bo,ah ct]] []).D=((af.g (aC.a (aa.p !fm nm ps rs bo) []))).D:=ae
def UQ:aq
 | [.u [.h nm,.d 101 ps,.c .i64 rs,.d 97 bo,.c .i64 ct]],[]=>.g (.a (.p (!fm nm ps rs bo)) [])
 |_,_=>.d
def azt:aH 33 UQ:=bI (aA Tm aQ) azo λp q r h=>by
 unfold UQ at h;split at h
 ·exact(azs _ _ _ _ _).trans h
 ·cases h
def UR:FuncId->aq:=aL [(33,UQ)]
def af3:=aR 16 C_ ae
def wP:aa->Bool:=λf=> !sZ f
def azu(vs len n):(cB (ay an UR C_ aK) 0 2 (cq C_ 0) [.d 43 vs,.z 33 [] [],ah len,ah n] []).D=((letI ai:=vs.getD n.toNat .m;af.c (decide (n<len)) (.c (decide (0<=n) &&decide (n<(↑vs.length:Int))) (.c (!fm (ai.D 0).bJ (ai.D 1).U (ai.D 2).I (ai.D 3).U) (.g ((.c,[ah n],[]))) (.g ((.b,[.d 43 vs,.z 33 [] [],ah len,ah (i64.wrap (n+1))],[])))) .d) (.g ((.a 0,[.m],[])))):af (aU×List aa×List aj)).D:=ae
def US:dk:=λm key vs os=>match vs,os with
 | [.d 43 vs,.z 33 [] [],.c .i64 len,.c .i64 0],[]=>.I (decide (len=(vs.length:Int)) &&decide (vs.length<=bP) &&Nat.beq m 0 &&Nat.beq key 2) (CU (bc (wP) vs 0))
 |_,_=>.d
def azv:cJ an UR C_ US:=by
 intro m key vs os r h;unfold US at h;split at h
 ·rename_i vs len;obtain⟨h1,h2⟩:=aO h;simp only[au,bC,aNx]at h1;obtain⟨⟨⟨rfl,hs⟩,rfl⟩,rfl⟩:=h1;rw[FQ]at h2;injection h2 with h2;subst h2;exact FR af3 0 ae ae cv (λn=> [.d 43 vs,.z 33 [] [],.c .i64 vs.length,.c .i64 n]) (wP) vs hs (λn=>azu vs _ n) vs.length 0 ab
 ·simp[af.D]at h
def UT:aq| [.d 43 vs,.z 33 [] []],[]=>.I (decide (vs.length<=bP)) (.g (.a (.c .i64 (fH (bc (wP) vs 0))) [])) |_,_=>.d
def azw(vs):(aI (ay an UR C_ US) false f16 [.d 43 vs,.z 33 [] []] []).D=((af.c (decide ((↑vs.length:Int)=(↑vs.length:Int)) &&decide (vs.length<=cg) &&Nat.beq 0 0 &&Nat.beq 2 2) (.c ((bc wP vs 0).isSome) (.g (ia (↑((bc wP vs 0).getD 0):Int))) (.g (ia (-1:Int)))) .d)).D:=ae
def azx:aH 16 UT:=dN aW c_ (aA azt aQ) af3 rfl azv λp q r h=>by
 unfold UT at h;split at h
 ·obtain⟨h1,h2⟩:=aO h;refine(azw _).trans ?_;rw[<-h2];simp only[dA,fU];rw[if_pos (by simpa using (show _<=9223372036854775807 from ff h1))];cases bc _ _ 0<;>rfl
 ·cases h
def azy:=aR 32 Rn ae
def UU:aq| [.d 43 vs,.z 33 [] []],[]=>.I (decide (vs.length<=bP)) (.g (.a (.p (bc (wP) vs 0).isSome) [])) |_,_=>.d
def azz(vs):(aI (ay an (aL [(16,UT)]) Rn aK) false f32 [.d 43 vs,.z 33 [] []] []).D=((af.c (decide (vs.length<=cg)) (al (.p (decide (fH (bc wP vs 0)>=0))) []) .d)).D:=ae
def azA:aH 32 UU:=bI (aA azx aQ) azy λp q r h=>by
 unfold UU at h;split at h
 ·obtain⟨h1,h2⟩:=aO h;refine(azz _).trans ?_;rw[<-h2];simp only[dA,fU];rw[if_pos (by simpa using (show _<=9223372036854775807 from ff h1))];cases bc _ _ 0<;>simp[fH]
 ·cases h
def s_:List Nat:=[2,3,23,24,25]
def DQ(l:List aa)(n i:Int):List aa:=[.e 0 0,.e 1 0,.d 43 l,.c .i64 n,.c .i64 i]
def A4(q:List aa)(k:Nat):List aj:=[.a false [.w],.a false [.y 43 2 0 k],.b false 0 43 q]
def L_(p:Prop):Bool:=@decide p (Classical.propDecidable p)
def azB{p:Prop}(h:p):L_ p=true:=@decide_eq_true p (Classical.propDecidable p) h
def azC{p:Prop}(h:L_ p=true):p:=@of_decide_eq_true p (Classical.propDecidable p) h
def oQ(f:aa):aa:=aG (fo f) (iE f) (jY f) (bQ 20 (eJ f) 0).1 (bQ 20 (eJ f) 0).2
def Ma:FuncId->aq:=aL [(39,J0 101),(35,UP 43),(32,UU)]
def UW:∀k,aH k (Ma k):=aA (ab1 azr) (aA (azp azq) (aA azA aQ))
def af4(l q:List aa)(k:Nat)(n:Int):Prop:=q=l/\k=l.length/\n=l.length/\l.length<=20/\∀f∈l,sZ f=true
def Mb:dk:=λm_ key vs os=>match vs,os with
 | [.e 0 0,.e 1 0,.d 43 l,.c .i64 n,.c .i64 0],[.a false [.w],.a false [.y 43 2 0 k],.b false 0 43 q]=>.I (L_ (af4 l q k n) &&Nat.beq m_ 0 &&Nat.beq key 5) (.g (.a 0,[.e 0 0,.e 1 0],A4 (l.map oQ) k))
 | [.e 0 0,.e 1 0,.d 43 l,.c .i64 n,.c .i64 0],[.a false [.w],.a false [.d 43 []]]=>.I (l.isEmpty &&decide (n=(l.length:Int)) &&Nat.beq m_ 0 &&Nat.beq key 5) (.g (.a 0,[.e 0 0,.e 1 0],[.a false [.w],.a false [.d 43 []]]))
 |_,_=>.d
abbrev fO:bD:=ay an Ma yq Mb
def azD(l):(aI (ay an Ma yq Mb) false f18 [.u [.d 43 l]] []).D=((letI ai:=(↑l.length:Int);af.c (!decide (ai>20)) (.c (decide (l.length<=cg)) (.c ((bc wP l 0).isSome) (al (.u [.w]) []) (.c (Nat.beq 43 43 &&decide (l.length<=4294967296)) (.c (l.isEmpty) (.c (l.isEmpty &&decide (ai=ai) &&Nat.beq 0 0 &&Nat.beq 5 5) (al (.u [.d 43 []]) []) .d) (.c (L_ (af4 l l l.length ai) &&Nat.beq 0 0 &&Nat.beq 5 5) (al (.u [.d 43 (List.map oQ l)]) []) .d)) .d)) .d) (al (.u [.w]) [])):af aC).D:=ae
def azE(u:Unit):(vX fO 0 s_ [2,3,23,24,25,26] (.region 5 (d_ 5) false) [.e 0 0,.e 1 0,.d 43 [],ah 0,ah 0] [az [.w],az [.d 43 []]]).D=((af.g ((.b,[.e 0 0,.e 1 0,.d 43 [],ah 0,ah 0,.p false],[az [.w],az [.d 43 []]])))).D:=ae
def azF(l q n i k):(vX fO 0 s_ [2,3,23,24,25,26] (.region 5 (d_ 5) false) (DQ l n i) (A4 q k)).D=((af.g ((.b,[.e 0 0,.e 1 0,.d 43 l,ah n,ah i,.p (decide (i<n))],[az [.w],az [.y 43 2 0 k],.b false 0 43 q])))).D:=ae
def azG(l q n i k):(vX fO 0 s_ [2,3,4,5,23,24,25] (.region 6 (d_ 6) false) (DQ l n i) (A4 q k)).D=((letI ai:=l.getD i.toNat .m;af.c (decide (0<=i) &&decide (i<(↑l.length:Int))) (.g ((.b,[.e 0 0,.e 1 0,ah i,.e 2 0,.d 43 l,ah n,ah i],[az [.w],az [.y 43 3 0 k],az [.h (ai.D 0).bJ,.d 101 (ai.D 1).U,ah (ai.D 2).I,.d 97 (ai.D 3).U,ah (ai.D 4).I],.b false 0 43 q]))) .d):af (aU×List aa×List aj)).D:=ae
def azH(l q ps bo nm rs ct n i k):(vX fO 0 [2,3,4,5,23,24,25] yX (.region 7 (d_ 7) false) [.e 0 0,.e 1 0,ah i,.e 2 0,.d 43 l,ah n,ah i] [az [.w],az [.y 43 3 0 k],az [.h nm,.d 101 ps,ah rs,.d 97 bo,ah ct],.b false 0 43 q]).D=((af.g ((.b,[.e 0 0,.e 1 0,ah i,.e 2 0,.e 3 0,.d 43 l,ah n,ah i],[az [.w],az [.y 43 4 0 k],az [.h nm,.d 101 ps,ah rs,.d 97 bo,ah ct],cu 0,.b false 0 43 q])))).D:=ae
def UX(q:List aa)(i:Int)(ps:List aa):List aa:=q.set i.toNat (.u [.h ((q.getD i.toNat .m).D 0).bJ,.d 101 ps,.c .i64 ((q.getD i.toNat .m).D 2).I,.d 97 ((q.getD i.toNat .m).D 3).U,.c .i64 ((q.getD i.toNat .m).D 4).I])
def UY(q:List aa)(i:Int)(bo:List aa):List aa:=q.set i.toNat (.u [.h ((q.getD i.toNat .m).D 0).bJ,.d 101 ((q.getD i.toNat .m).D 1).U,.c .i64 ((q.getD i.toNat .m).D 2).I,.d 97 bo,.c .i64 ((q.getD i.toNat .m).D 4).I])
def UZ(q:List aa)(i:Int)(c:Int):List aa:=q.set i.toNat (.u [.h ((q.getD i.toNat .m).D 0).bJ,.d 101 ((q.getD i.toNat .m).D 1).U,.c .i64 ((q.getD i.toNat .m).D 2).I,.d 97 ((q.getD i.toNat .m).D 3).U,.c .i64 c])
def G2(i:Int)(k:Nat):Bool:=Nat.beq (43:TypeId) (43:TypeId) &&true &&decide ((0:Int)<=i) &&decide (i<(k:Int))
def azI(l q ps bo bo' nm rs ct c n i k):(vX fO 0 L9 s_ (.region 10 (d_ 10) true) (af1 l bo' i n) (ll q k [.h nm,.d 101 ps,ah rs,.d 97 bo,ah ct] c)).D=(af.c (Nat.beq 101 101 &&decide (ps.length<=4294967296)) (.c (G2 i k) (.c (G2 i k) (.c (G2 i k) (.g (.b,DQ l n i,A4 (UZ (UY (UX q i ps) i bo') i c) k)) .d) .d) .d) .d).D:=ae
def azJ{p r f}{i:Nat}(hp:p.length=i)(ps bo)(c:Int):UZ (UY (UX (p++f::r) i ps) i bo) i c=p++aG (fo f) ps (jY f) bo c::r:=by
 have hs:∀(f g:aa),(p++f::r).set i g=p++g::r:=λf g=>by rw[No _ _ ab,hp,ni];rfl
 have hg:∀f:aa,(p++f::r).getD i .m=f:=λf=>by rw[dD,kx ab,hp,ni];rfl
 unfold UZ UY UX;simp only[dE,hg,hs];rfl
def azK(l q n i k):(vX fO 0 s_ s_ (.region 11 (d_ 11) false) (DQ l n i) (A4 q k)).D=((af.g ((.b,[.e 0 0,.e 1 0,.d 43 l,ah n,ah (i64.wrap (i+1))],[az [.w],az [.y 43 2 0 k],.b false 0 43 q])))).D:=ae
def af5:cq yq 0=(.seq (.region 5 (d_ 5) false) (.seq (.cond (.tmp 26) .skip (.exit 0)) (.seq (.block 1 (.seq (.region 6 (d_ 6) false) (.seq (.region 7 (d_ 7) false) (.seq (.region 8 (d_ 8) false) (.seq (.region 9 (d_ 9) false) (.region 10 (d_ 10) true)))))) (.region 11 (d_ 11) false)))):=ae
def azL{s}(h:lj s=true):mu 20 (dG s)=true:=by have h1:=(TC (show qv (dp s) (eI s) (iD s) (jJ s) (dG s) (aP s) (bf s)=true from h)).1;have h:qv (dp s) (eI s) (iD s) (jJ s) (dG s) (aP s) (bf s)=true:=h;unfold qv at h;simp only[au,kr]at h;obtain⟨_,h2⟩:=h;unfold mu;rw[aD (show(dG s).length<=1000 from ab),qJ,dS];intro x hx;have h6:AN (bB x)=false:=TB _ _ h2 x hx;unfold AN at h6;rw[bne,h6];rfl
def af6{m:Nat}(ih:∀l n,0<=n->n<=200->(bn m l n).1=true->lR m l=true/\(bQ m l n).2=(bn m l n).2):∀(l:List aa)(n:Int),0<=n->n<=200->(eZ (bn m) l n).1=true->(l.all λs=>mu 20 (dG s) &&lR m (aP s) &&lR m (bf s))=true/\(ic (bQ m) l n).2=(eZ (bn m) l n).2
 | [],n,_,_,h=>⟨rfl,rfl⟩
 |s::r,n,h0,h1,h=>by
  have vy:eZ (bn m) (s::r) n=(if n+1>200\/lj s=false then(false,n+1)else
   if(bn m (aP s) (n+1)).1=false then(false,(bn m (aP s) (n+1)).2)else
   if(bn m (bf s) (bn m (aP s) (n+1)).2).1=false then(false,(bn m (bf s) (bn m (aP s) (n+1)).2).2)else eZ (bn m) r (bn m (bf s) (bn m (aP s) (n+1)).2).2):=rfl
  rw[vy]at h⊢;split at h
  ·cases h
  ·rename_i h2;have h2':n+1<=200:=Int.not_lt.1 λx=>h2 (Or.inl x);have hh:lj s=true:=by cases e:lj s with |true=>rfl |false=>exact absurd (Or.inr e) h2
   rw[if_neg h2];split at h
   ·cases h
   ·rename_i h3;rw[if_neg h3];split at h
    ·cases h
    ·rename_i h4;rw[if_neg h4];have a3:(bn m (aP s) (n+1)).1=true:=by simpa using h3
     have a4:(bn m (bf s) (bn m (aP s) (n+1)).2).1=true:=by simpa using h4
     have b3:=kM m (aP s) (n+1) ab h2';have b4:=kM m (bf s) (bn m (aP s) (n+1)).2 ab (b3.2.2 a3).1;obtain⟨c1,c2⟩:=ih _ _ ab h2' a3;obtain⟨c3,c4⟩:=ih _ _ ab (b3.2.2 a3).1 a4;obtain⟨c5,c6⟩:=af6 ih r _ ab (b4.2.2 a4).1 h;refine⟨?_,?_⟩
     ·rw[ja,azL hh,c1,c3,c5];rfl
     ·rw[<-c6,<-c4,<-c2];rfl
def af7:∀(m:Nat)(l:List aa)(n:Int),0<=n->n<=200->(bn m l n).1=true->lR m l=true/\(bQ m l n).2=(bn m l n).2
 |0,l,n,_,_,h=>⟨h,rfl⟩
 |m+1,l,n,h0,h1,h=>by have hs:=(kM (m+1) l n h0 h1).2.2 h;obtain⟨c1,c2⟩:=af6 (af7 m) l n h0 h1 h;refine⟨?_,c2⟩;rw[lR,c1,aD (show l.length<=1000 from ab)];rfl
def azM{f}(h:sZ f=true):lR 20 (f.D 3).U=true/\(bQ 20 (f.D 3).U 0).2<=9223372036854775807/\(Nat.beq (101:TypeId) (101:TypeId) &&decide ((f.D 1).U.length<=4294967296))=true:=by
 have h1:=Dt h;have h2:fm (fo f) (iE f) (jY f) (eJ f)=true:=h;unfold fm at h2;simp only[au]at h2;obtain⟨c1,c2⟩:=af7 20 (eJ f) 0 ab ab h2.2;have hs:=(kM 20 (eJ f) 0 ab ab).2.1;have h3:(f.D 1).U.length<=8:=h1.2;refine⟨c1,?_,?_⟩
 ·show(bQ 20 (eJ f) 0).2<=_;omega
 ·rw[aD (show(f.D 1).U.length<=4294967296 from ab)];rfl
def azN:ud fO prog:=c_ Ma UW yq 0 0
def azO:cF (cq yq 0)=5:=ae
def af8:fO.c 5=s_/\fO.h 5=[2,3]:=⟨ae,ae⟩
def DR:dI fO.e fO.g 58 (.region 5 (d_ 5) false)=true/\dI fO.e fO.g 58 (.region 6 (d_ 6) false)=true/\dI fO.e fO.g 58 (.region 7 (d_ 7) false)=true/\dI fO.e fO.g 58 (.region 10 (d_ 10) true)=true/\dI fO.e fO.g 58 (.region 11 (d_ 11) false)=true:=⟨ae,ae,ae,ae,ae⟩
def DS:jG (.region 5 (d_ 5) false)=true/\jG (.region 6 (d_ 6) false)=true/\jG (.region 7 (d_ 7) false)=true/\jG (.region 10 (d_ 10) true)=true/\jG (.region 11 (d_ 11) false)=true:=⟨ae,ae,ae,ae,ae⟩
section
variable{Z:Nat->Prop}{lo B kn:Nat}{K:(Nat->aj)->(Nat->AH.bd)->World->Prop}{β:Nat->AH.bd}{w:World}{a:Act}
def DT(hK:mh 0 B K)(dT:lo<=B){c}(hc:dI fO.e fO.g 58 c=true)(hf:jG c=true)(hl:kF fO 0 c){os'}(he:(vX fO 0 kin qX c vs os).D=some (.b,vs',os'))
  (r:bA fO Z 58 lo ⟨false,[]⟩ (dx kin vs os) β a w)(k:K (a_ os) β w)(hQ:∀a' w' β',bA fO Z 58 lo ⟨false,[]⟩ (dx qX vs' os') β' a' w'->K (a_ os') β' w'->Q .normal a' w'):c.wpIn Fence.wide kn prog Q a w:=
 an9 aW UW azN (.inl rfl) hc (λ_=>hf) hl he aB hK dT r k λe a' w' β' r' k' hx=>by
  cases e with
  |normal=>exact hQ a' w' β' r' k'
  |_=>exact hx.elim
def U0(r:bA fO Z 58 lo ⟨false,[]⟩ (dx kin vs os) β a w)(h:∀t∈qX,(dx qX vs' os).b t=(dx kin vs os).b t):bA fO Z 58 lo ⟨false,[]⟩ (dx qX vs' os) β a w:=
 r.abY rfl λt=>by
  by_cases ht:t∈qX
  ·exact .inl (h t ht)
  ·exact .inr (UO ht)
def azP:ab8 fO prog 0 58 (cq yq 0):=by
 intro Z lo kn B K hK dT hc vs os res β a w he hr hk;rw[azO]at he hr⊢;rw[af8.1]at hr;rw[af8.2];have he:(Mb 0 5 vs os).D=some res:=he;unfold Mb at he;rw[af5];split at he
 ·rename_i l' n k l _x;obtain⟨h1,h2⟩:=aO he;simp only[au]at h1;obtain⟨rfl,rfl,rfl,aNf,Zf⟩:=azC h1.1.1;cases h2;refine uc (ι:=Nat) (λi a w=>∃p r β,p.length+i=l.length/\l=p++r/\bA fO Z 58 lo ⟨false,[]⟩ (dx s_ (DQ l l.length p.length) (A4 (p.map oQ++r) l.length)) β a w/\K (a_ (A4 (p.map oQ++r) l.length)) β w) id l.length ⟨[],l,β,aB,rfl,hr,hk⟩ ?_;rintro i a w ⟨p,r,β,ET,Ch,hr,hk⟩;refine b8 (DT hK dT DR.1 DS.1 trivial (azF l _ l.length p.length l.length) hr hk λa1 w1 β1 r1 k1=> ?_);have h26:a1.eval (.tmp 26)=.bool (decide ((p.length:Int)<(l.length:Int))):=r1.m 26;cases i with
  |zero=>
   have YD:r=[]:=by have:=dh List.length Ch;simp at this;exact List.length_eq_zero_iff.1 ab
   subst YD;rw[zk]at Ch;subst Ch;rw[ly ab]at h26;refine b8 (fY (t:=false) h26 (qL ?_));rw[zk]at r1 k1;exact⟨β1,U0 r1 (λt ht=>by simp only[jc,oZ,og]at ht;rcases ht with rfl |rfl<;>rfl),sy _ _ _,k1,rfl⟩
  |succ i=>
   obtain⟨f,r,rfl⟩:∃f q,r=f::q:=by
    cases r with
    |nil=>have:=dh List.length Ch;simp at this;omega
    |cons f q=>exact⟨f,q,rfl⟩
   have j5:f∈l:=by rw[Ch];simp
   have cC:p.length<l.length:=ab;have hg:l.getD (p.length:Int).toNat .m=f:=by rw[Ch,dE,dD,kx (bj _),ni];rfl
   have aMg:(decide ((0:Int)<=(p.length:Int)) &&decide ((p.length:Int)<(l.length:Int)))=true:=by rw[aD (show(0:Int)<=(p.length:Int)from ab),aD (show(p.length:Int)<(l.length:Int)from ab)];rfl
   have Zg:G2 p.length l.length=true:=by unfold G2;rw[aD (show(0:Int)<=(p.length:Int)from ab),aD (show(p.length:Int)<(l.length:Int)from ab)];rfl
   rw[aD (show(p.length:Int)<(l.length:Int)from ab)]at h26;have r2:=U0 (qX:=s_) (vs':=DQ l l.length p.length) r1 (λt ht=>by simp only[s_,jc,oZ,og]at ht;rcases ht with rfl |rfl |rfl |rfl |rfl<;>rfl);have bH:=azM (Zf f j5);refine b8 (fY (t:=true) h26 (nj ?_));refine b8 (lx (b8 ?_));have e6:=azG l (p.map oQ++f::r) l.length p.length l.length;rw[hg]at e6;refine DT hK dT DR.2.1 DS.2.1 trivial (e6.trans (aZ aMg rfl)) r2 k1 λa3 w3 β3 r3 k3=> ?_;refine b8 (DT hK dT DR.2.2.1 DS.2.2.1 trivial (azH l (p.map oQ++f::r) _ _ _ _ _ l.length p.length l.length) r3 k3 λa4 w4 β4 r4 k4=> ?_);refine azn rfl rfl r4 bH.1 bH.2.1 λa5 w5 r5 st5=> ?_;have k5:=hK.d k4 st5;refine DT hK dT DR.2.2.2.1 DS.2.2.2.1 trivial ((azI l (p.map oQ++f::r) _ _ _ _ _ _ _ l.length p.length l.length).trans (aZ bH.2.2 (aZ Zg (aZ Zg (aZ Zg rfl))))) r5 k5 λa6 w6 β6 r6 k6=> ?_;show Code.wpIn Fence.wide kn prog _ _ a6 w6;have il:=azJ (p:=p.map oQ) (r:=r) (f:=f) (i:=p.length) aB (f.D 1).U (bQ 20 (f.D 3).U 0).1 (bQ 20 (f.D 3).U 0).2;rw[il]at r6 k6;refine DT hK dT DR.2.2.2.2 DS.2.2.2.2 trivial (azK l _ l.length p.length l.length) r6 k6 λa7 w7 β7 r7 k7=> ?_;rw[ep (n:=(p.length:Int)+1) ab ab,show(p.length:Int)+1=((p++ [f]).length:Int)from aB]at r7;refine⟨i,⟨p++ [f],r,β7,by simp;omega,by rw[Ch];simp,?_,?_⟩,zp i⟩
   ·rw[M3,jb];exact r7
   ·rw[M3,jb];exact k7
 ·rename_i l n _x;obtain⟨h1,h2⟩:=aO he;simp only[au,bC]at h1;obtain⟨⟨⟨hl,rfl⟩,_⟩,_⟩:=h1;obtain rfl:=List.isEmpty_iff.1 hl;cases h2;refine uc (ι:=Nat) (λ_ a w=>∃β,bA fO Z 58 lo ⟨false,[]⟩ (dx s_ [.e 0 0,.e 1 0,.d 43 [],.c .i64 0,.c .i64 0] [.a false [.w],.a false [.d 43 []]]) β a w/\K (a_ [.a false [.w],.a false [.d 43 []]]) β w) id 0 ⟨β,hr,hk⟩ ?_;rintro _ a w ⟨β,hr,hk⟩;refine b8 (DT hK dT DR.1 DS.1 trivial (azE ()) hr hk λa1 w1 β1 r1 k1=> ?_);have h26:a1.eval (.tmp 26)=.bool false:=r1.m 26;refine b8 (fY (t:=false) h26 (qL ?_));exact⟨β1,U0 r1 (λt ht=>by simp only[jc,oZ,og]at ht;rcases ht with rfl |rfl<;>rfl),sy _ _ _,k1,rfl⟩
 ·cases he
end
def fP(l:List aa):List aa:=bif decide ((l.length:Int)>20) || !l.all sZ then[]else l.map oQ
def G3:aq| [.u [.d 43 l]],[]=>.g (.a (.u [.d 43 (fP l)]) []) |_,_=>.d
def af9{p:aa->Bool}:∀(l:List aa)(n:Nat),(bc p l n).isSome=l.any p
 | [],_=>rfl
 |v::r,n=>by
  unfold bc;rw[List.any_cons];cases p v with
  |true=>rfl
  |false=>exact af9 r (n+1)
def azQ(l:List aa):l.any wP= !l.all sZ:=by
 induction l with
 |nil=>rfl
 |cons v l ih=>rw[List.any_cons,ja,ih];show(!sZ v ||_)=_;cases sZ v<;>rfl
def Mc:aq| [a],[]=>aI fO false f18 [a] [] |_,_=>.d
def azR:aH 18 Mc:=aoh (E:=fO) aW UW func18 af2.b ay' (by have:=af2.e;exact this) false Mc λp q r h=>by
 unfold Mc at h;split at h
 ·refine⟨?_,h⟩;show yn fO prog 0 (1+(f18.ntmps-1)) _;rw[aza];refine⟨trivial,⟨⟨trivial,⟨⟨trivial,trivial⟩,trivial⟩⟩,⟨trivial,⟨⟨trivial,?_⟩,⟨trivial,trivial⟩⟩⟩⟩⟩;have:=azP;rw[af5]at this;exact this
 ·cases h
def af_:aH 18 G3:=Af (g:=an) (M:=G3) λp q r h=>by
 unfold G3 at h;split at h
 ·rename_i l;cases h;have key:dO (Mc [.u [.d 43 l]] []) (.a (.u [.d 43 (fP l)]) []):=by
   have hn:dO (.g (.a (.u [.w]) [])) (.a (.u [.d 43 []]) []):=.nL (.a _ (.V (.I (.D _) .U)));refine .V (azD l) ?_;unfold fP;cases h20:decide ((l.length:Int)>20)with
   |true=>exact hn
   |false=>
    have hlen:=eS h20;refine .D rfl (.D (aD (show l.length<=9223372036854775807 from ab)) ?_);rw[af9,azQ];cases il:l.all sZ with
    |false=>exact hn
    |true=>
     have Zf:∀f∈l,sZ f=true:=List.all_eq_true.1 il;refine .JV rfl (.D ?_ ?_)
     ·rw[aD (show l.length<=4294967296 from ab)];rfl
     ·cases l with
      |nil=>exact .D rfl (.D rfl (.U rfl))
      |cons v l=>refine .JV rfl (.D ?_ (.U rfl));rw[azB ⟨rfl,rfl,rfl,ab,Zf⟩];rfl
  obtain⟨o0,h1,h2⟩:=key;exact PS (PN azR h1) h2
 ·cases h
def azS:FuncId->aq:=aL [(46,Uz),(47,Uo),(18,G3)]
def azT(l a):(aI (ay an azS Rj aK) false f26 [.d 80 l,ah a] []).D=((letI ai:List aa:=[.h [],.w,ah 0,.w,ah 0];letI ak:af aC:=al (.q [.u ai,ah 0,ah 3]) [];letI aw:=jZ l a;letI aS:=pC l aw.a (1:Int);letI bx:=fP [aG (fo aw.b) (iE aw.b) (jY aw.b) aS.b.U (uE aw.b)];letI bX:=(↑bx.length:Int);letI cI:af aC:=al (.q [.u ai,ah a,ah 10]) [];letI fi:=Int.toNat (0:Int);letI eA:=bx.getD fi .m;letI jC:=fP [aG (fo aw.b) (iE aw.b) (jY aw.b) [] (uE aw.b)];letI iw:=(↑jC.length:Int);letI gv:=jC.getD fi .m;af.c (!decide (a<0)) (.c (decide (a>(↑l.length:Int))) ak (.c (br l a) (.c (!aw.c) (al (.q [.u ai,ah aw.a,ah 7]) []) (.c (fq l &&decide ((1:Int)<=100)) (.c (aS.c) (.c (bX==0) cI (.c (decide ((0:Int)<=0) &&decide (0<bX)) (al (.q [aG (eA.D 0).bJ (eA.D 1).U (eA.D 2).I (eA.D 3).U (eA.D 4).I,ah aS.a,ah 0]) []) .d)) (.c (aS.e !=0) (al (.q [.u ai,ah aS.d,ah aS.e]) []) (.c (iw==0) cI (.c (decide ((0:Int)<=0) &&decide (0<iw)) (al (.q [.u [.h (gv.D 0).bJ,.d 101 (gv.D 1).U,ah (gv.D 2).I,.d 97 (gv.D 3).U,ah (gv.D 4).I],ah aS.d,ah 0]) []) .d)))) .d)) .d)) ak):af aC).D:=ae
def G4(l:List aa)(a:Int):List aa:=fP [aG (fo (jZ l a).b) (iE (jZ l a).b) (jY (jZ l a).b) (pC l (jZ l a).a 1).b.U (uE (jZ l a).b)]
def nZ(l:List aa)(a:Int):b6:=bif !decide (a<0)then(bif decide (a>(l.length:Int))then dM 0 3 0 else bif !(jZ l a).c then dM (jZ l a).a 7 0 else
 bif (pC l (jZ l a).a 1).c then(bif ((G4 l a).length:Int)==0 then dM a 10 0 else fA ((G4 l a).getD 0 .m) (pC l (jZ l a).a 1).a)else dM (pC l (jZ l a).a 1).d (pC l (jZ l a).a 1).e 0)else dM 0 3 0
def U1(r:b6):aC:=bif r.c then .a (.q [lP r.b,.c .i64 r.a,.c .i64 0]) []else .a (.q [GS,.c .i64 r.d,.c .i64 r.e]) []
def U2(r:b6):af aC:=.c r.c (.g (.a (.q [lP r.b,.c .i64 r.a,.c .i64 0]) [])) (.g (.a (.q [GS,.c .i64 r.d,.c .i64 r.e]) []))
def azU(r):(U2 r).D=some (U1 r):=by unfold U2 U1;cases r.c<;>rfl
def G5:dO (.g (.a (.q [.u [.h [],.w,.c .i64 0,.w,.c .i64 0],.c .i64 f,.c .i64 e]) [])) (U1 (dM f e 0)):=
 .nL (.a _ (.U (.I (.V (.D _ (.I (.D _) (.D _ (.I (.D _) (.D _ .U)))))) (.D _ (.D _ .U)))))
def U3:aq| [.d 80 l,.c .i64 a],[]=>.I (fq l) (U2 (nZ l a)) |_,_=>.d
def azV:aH 26 U3:=pX (aA axk (aA awX (aA af_ aQ))) aw4 λp q r h=>by
 unfold U3 at h;split at h
 ·rename_i l a;obtain⟨h1,h2⟩:=aO h;rw[azU]at h2;cases h2;refine .V (azT l a) (.I (λh3=>.I (λ_=>G5) λh4=> ?_) λ_=>G5);have g3:=eS (nJ h3);have g4:=eS h4;have o1:=uI h1 (show 0<=a from ab) ab;refine .D o1 (.I (λ_=>G5) λh5=>.D (by rw[h1];rfl) (.I (λh6=> ?_) λh6=> ?_))
  ·refine .I (λ_=>G5) λh7=>.D ?_ (.U rfl);have:(G4 l a).length≠0:=λe=>by have h8:(((G4 l a).length:Int)==0)=false:=h7;rw[e]at h8;cases h8
   rw[au];exact⟨rfl,aD (show(0:Int)<((G4 l a).length:Int)from ab)⟩
  ·have g:=afb o1;have:=(ae2 (d:=1) h1 (show 0<=(jZ l a).a from ab) g.2.1).2 h6;exact .D (GJ this.2.2) G5
 ·cases h
def Md(h:fq l=true)(h0:0<=a)(h1:a<=(l.length:Int)):fp l a (nZ l a):=by have g:=afb (uI h h0 h1);refine cZ (λ_=>cZ (λ_=>eQ ab ab av) λ_=>cZ (λ_=>eQ ab g.2.1 av) λh2=> ?_) λ_=>eQ ab ab av;have g2:=g.2.2 (mQ h2);have k:=ae2 (d:=1) h (show 0<=(jZ l a).a from ab) g.2.1;exact cZ (λh3=>cZ (λ_=>eQ h0 h1 av) λ_=>jn (by have:=k.1 h3;omega) (k.1 h3).2) λh3=>eQ (k.2 h3).1 (k.2 h3).2.1 (k.2 h3).2.2
def U4:aq| [.c .i64 n,.c .i64 e,.e 0 0],[.a false [.h s]]=>.I (decide (s.length<=281474976710656)) (.g (.a (.q [.u [.d 43 []],Dl (gC s n).1 (gC s n).2,.c .i64 e]) [.a false [.h s]])) |_,_=>.d
def azW(s n e):(aI (ay an (aL [(25,Sw)]) Rk aK) false f24 [ah n,ah e,.e 0 0] [az [.h s]]).D=((af.c (decide (s.length<=281474976710656)) (al (.q [.u [.w],.u [ah (gC s n).fst,ah (gC s n).snd],ah e]) [az [.h s]]) .d)).D:=ae
def azX:dO (.g (.a (.q [.u [.w],Dl (gC s n).1 (gC s n).2,.c .i64 e]) [.a false [.h s]])) (.a (.q [.u [.d 43 []],Dl (gC s n).1 (gC s n).2,.c .i64 e]) [.a false [.h s]]):=
 .nL (.a _ (.U (.I (.V (.I (.D _) .U)) (.D _ (.D _ .U)))))
def azY:aH 24 U4:=pX (aA aqD aQ) aw5 λp q r h=>by
 unfold U4 at h;split at h
 ·rename_i n e s;obtain⟨h1,h2⟩:=aO h;cases h2;exact .V (azW s n e) (.D h1 azX)
 ·cases h
def DU:FuncId->aq:=aL [(23,SM),(24,U4),(26,U3)]
def azZ(s l st n a):(cB (ay an DU um aK) 0 10 (cq um 0) [.e 0 0,.e 1 0,.d 80 l,.z 24 [] [.e 2 0],.y 80 3 0 n,.e 4 0,ah a] [az [.w],az [ah 0,ah 0],az [.h s],.b false 0 80 st,az [.w]]).D=((letI ai:=nZ l a;letI ak:List aa:=[ah 0,ah 0];letI aw:=gC s ((st.getD ai.d.toNat .m).D 2).I;af.c (decide (a<(↑l.length:Int))) (.c (fq l) (.c (ai.c) (.g ((.b,[.e 0 0,.e 1 0,.d 80 l,.z 24 [] [.e 2 0],.y 80 3 0 n,.e 4 0,ah ai.a],[az [.w],az ak,az [.h s],.b false 0 80 st,az [.y 43 5 0 1],.b false 0 43 [lP ai.b]]))) (.c (ai.e !=0) (.c (Nat.beq 80 80 &&true &&decide (0<=ai.d) &&decide (ai.d<(↑n:Int))) (.c (decide (s.length<=281474976710656)) (.g ((.c,[.e 0 0,.e 1 0,ah ai.e,.e 2 0],[az [.d 43 []],az [ah aw.fst,ah aw.snd],az [.w]]))) .d) .d) (.g ((.b,[.e 0 0,.e 1 0,.d 80 l,.z 24 [] [.e 2 0],.y 80 3 0 n,.e 4 0,ah ai.d],[az [.w],az ak,az [.h s],.b false 0 80 st,az [.y 43 5 0 1],.b false 0 43 [aG [] [] 0 [] 0]]))))) .d) (.g ((.a 0,[.e 0 0,.e 1 0,.m,.e 2 0],[az [.w],az ak,az [.w]])))):af (aU×List aa×List aj)).D:=ae
def az0(s l st fs n q a):(cB (ay an DU um aK) 0 10 (cq um 0) [.e 0 0,.e 1 0,.d 80 l,.z 24 [] [.e 2 0],.y 80 3 0 n,.e 4 0,ah a] [az [.w],az [ah 0,ah 0],az [.h s],.b false 0 80 st,az [.y 43 5 0 q],.b false 0 43 fs]).D=((letI ai:=decide (s.length<=281474976710656);letI ak:=gC s ((st.getD a.toNat .m).D 2).I;letI aw:=nZ l a;letI aS:=decide (fs.length+1<=4294967296);letI bx:List aa:=[ah 0,ah 0];letI bX:=gC s ((st.getD aw.d.toNat .m).D 2).I;letI cI:=fs++ [aG [] [] 0 [] 0];af.c (decide (a<(↑l.length:Int))) (.c ((↑q:Int)==20) (.c (Nat.beq 80 80 &&true &&decide (0<=a) &&decide (a<(↑n:Int))) (.c ai (.g ((.c,[.e 0 0,.e 1 0,ah 10,.e 2 0],[az [.d 43 []],az [ah ak.fst,ah ak.snd],az [.y 43 3 0 q],.b false 0 43 fs]))) .d) .d) (.c (fq l) (.c (aw.c) (.c aS (.g ((.b,[.e 0 0,.e 1 0,.d 80 l,.z 24 [] [.e 2 0],.y 80 3 0 n,.e 4 0,ah aw.a],[az [.w],az bx,az [.h s],.b false 0 80 st,az [.y 43 5 0 (fs++ [lP aw.b]).length],.b false 0 43 (fs++ [lP aw.b])]))) .d) (.c (aw.e !=0) (.c (Nat.beq 80 80 &&true &&decide (0<=aw.d) &&decide (aw.d<(↑n:Int))) (.c ai (.g ((.c,[.e 0 0,.e 1 0,ah aw.e,.e 2 0],[az [.d 43 []],az [ah bX.fst,ah bX.snd],az [.y 43 3 0 q],.b false 0 43 fs]))) .d) .d) (.c aS (.g ((.b,[.e 0 0,.e 1 0,.d 80 l,.z 24 [] [.e 2 0],.y 80 3 0 n,.e 4 0,ah aw.d],[az [.w],az bx,az [.h s],.b false 0 80 st,az [.y 43 5 0 cI.length],.b false 0 43 cI]))) .d))) .d)) (.g ((.a 0,[.e 0 0,.e 1 0,.m,.e 2 0],[az [.w],az bx,az [.y 43 3 0 q],.b false 0 43 fs])))):af (aU×List aa×List aj)).D:=ae
def U5(st:List aa)(i:Int):Int:=((st.getD i.toNat .m).D 2).I
def j0(l st:List aa):Nat->List aa->Int->b6
 |0,fs,_=>⟨false,.d 43 fs,0,0,7⟩
 |k+1,fs,a=>bif decide (a<(l.length:Int))then(bif (fs.length:Int)==20 then⟨false,.d 43 fs,0,U5 st a,10⟩else
   bif (nZ l a).c then j0 l st k (fs++ [lP (nZ l a).b]) (nZ l a).a else⟨false,.d 43 fs,0,U5 st (nZ l a).d,(nZ l a).e⟩)else fA (.d 43 fs) 0
def DV(fs:List aa):List aj:=bif fs.isEmpty then[.a false [.w]]else[.a false [.y 43 3 0 fs.length],.b false 0 43 fs]
def yY(s:List UInt8)(r:b6):aU×List aa×List aj:=bif r.c then(.a 0,[.e 0 0,.e 1 0,.m,.e 2 0],[.a false [.w],.a false [.c .i64 0,.c .i64 0]]++DV r.b.U)
 else(.c,[.e 0 0,.e 1 0,.c .i64 r.e,.e 2 0],[.a false [.d 43 []],.a false [.c .i64 (gC s r.d).1,.c .i64 (gC s r.d).2]]++DV r.b.U)
def G6(s r):py (yY s r)=true:=by unfold yY;cases r.c<;>rfl
def af'(h:fs≠ []):DV fs=[.a false [.y 43 3 0 fs.length],.b false 0 43 fs]:=by
 cases fs with
 |nil=>exact absurd rfl h
 |cons _ _=>rfl
def U6{n:Nat}(h0:0<=i)(h1:i<(n:Int)):(Nat.beq (80:TypeId) (80:TypeId) &&true &&decide ((0:Int)<=i) &&decide (i<(n:Int)))=true:=by rw[aD h0,aD h1];rfl
def aga(s:List UInt8)(l st:List aa)(a:Int):List aa:=[.e 0 0,.e 1 0,.d 80 l,.z 24 [] [.e 2 0],.y 80 3 0 st.length,.e 4 0,.c .i64 a]
def agb(h:fs≠ []):(aU.c,[aa.e 0 0,aa.e 1 0,aa.c .i64 e,aa.e 2 0],[aj.a false [.d 43 []],.a false [.c .i64 (gC s f).1,.c .i64 (gC s f).2],.a false [.y 43 3 0 fs.length],.b false 0 43 fs])=yY s ⟨false,.d 43 fs,0,f,e⟩:=by show _=(aU.c,[aa.e 0 0,aa.e 1 0,aa.c .i64 e,aa.e 2 0],[aj.a false [.d 43 []],.a false [.c .i64 (gC s f).1,.c .i64 (gC s f).2]]++DV fs);rw[af' h];rfl
def az1(h:fs≠ []):(aU.a 0,[aa.e 0 0,aa.e 1 0,aa.m,aa.e 2 0],[aj.a false [.w],.a false [.c .i64 0,.c .i64 0],.a false [.y 43 3 0 fs.length],.b false 0 43 fs])=yY s (fA (.d 43 fs) 0):=by show _=(aU.a 0,[aa.e 0 0,aa.e 1 0,aa.m,aa.e 2 0],[aj.a false [.w],.a false [.c .i64 0,.c .i64 0]]++DV fs);rw[af' h];rfl
def agc(s l st)(hl:fq l=true)(bg:st.length=l.length+1)(hs:s.length<=281474976710656):∀(k:Nat)(fs:List aa)(a:Int),0<=a->a<=(l.length:Int)->(l.length:Int)-a<k->fs≠ []->fs.length<=20->
  bw an DU um 0 10 (aga s l st a) [.a false [.w],.a false [.c .i64 0,.c .i64 0],.a false [.h s],.b false 0 80 st,.a false [.y 43 5 0 fs.length],.b false 0 43 fs] (yY s (j0 l st k fs a))
 |0,fs,a,h0,h1,h2,hf,qQ=>ab
 |k+1,fs,a,h0,h1,h2,hf,qQ=>by
  refine eB.V Up 0 ae ae cv (az0 s l st fs st.length fs.length a) ?_;unfold j0;refine .U (λh3=>.U (λh4=> ?_) λh4=>.D hl (.U (λh5=> ?_) λh5=> ?_)) λ_=>.I (az1 hf) (G6 _ _)
  ·exact .D (U6 h0 ab) (.D (aD hs) (.I (agb hf) (G6 _ _)))
  ·have g:=(Md hl h0 h1).1 h5;have h6:fs.length≠20:=λe=>by rw[e]at h4;cases h4
   refine .D (aD (show fs.length+1<=4294967296 from ab)) (.mR ?_);exact agc s l st hl bg hs k (fs++ [lP (nZ l a).b]) _ ab g.2 ab aB (by simp;omega)
  ·have g:=(Md hl h0 h1).2 h5;exact .D (GJ g.2.2) (.D (U6 g.1 ab) (.D (aD hs) (.I (agb hf) (G6 _ _))))
def az2(s l st)(hl:fq l=true)(bg:st.length=l.length+1)(hs:s.length<=281474976710656):
  bw an DU um 0 10 (aga s l st 0) [.a false [.w],.a false [.c .i64 0,.c .i64 0],.a false [.h s],.b false 0 80 st,.a false [.w]] (yY s (j0 l st (l.length+1) [] 0)):=by
 refine eB.V Up 0 ae ae cv (azZ s l st st.length 0) ?_;unfold j0;refine .U (λh3=> ?_) λ_=>.I rfl (G6 _ _);show eB _ _ _ _ _ _ (yY s (bif (nZ l 0).c then j0 l st l.length ([]++ [lP (nZ l 0).b]) (nZ l 0).a else⟨false,.d 43 [],0,U5 st (nZ l 0).d,(nZ l 0).e⟩));refine .D hl (.U (λh5=> ?_) λh5=> ?_)
 ·have g:=(Md hl (j1 0) ab).1 h5;refine .mR ?_;exact agc s l st hl bg hs l.length [lP (nZ l 0).b] _ ab g.2 ab aB aB
 ·have g:=(Md hl (j1 0) ab).2 h5;exact .D (GJ g.2.2) (.D (U6 g.1 ab) (.D (aD hs) (.I rfl (G6 _ _))))
def U7:dk:=λm_ key vs os=>match vs,os with
 | [.e 0 0,.e 1 0,.d 80 l,.z 24 [] [.e 2 0],.y 80 3 0 n,.e 4 0,.c .i64 0],[.a false [.w],.a false [.c .i64 0,.c .i64 0],.a false [.h s],.b false 0 80 st,.a false [.w]]=>
  .I (fq l &&Nat.beq n st.length &&Nat.beq st.length (l.length+1) &&decide (s.length<=281474976710656) &&Nat.beq m_ 0 &&Nat.beq key 10)
  (.c (j0 l st (l.length+1) [] 0).c
   (.c (j0 l st (l.length+1) [] 0).b.U.isEmpty (.g (.a 0,[.e 0 0,.e 1 0,.m,.e 2 0],[.a false [.w],.a false [.c .i64 0,.c .i64 0],.a false [.w]]))
    (.g (.a 0,[.e 0 0,.e 1 0,.m,.e 2 0],[.a false [.w],.a false [.c .i64 0,.c .i64 0],.a false [.y 43 3 0 (j0 l st (l.length+1) [] 0).b.U.length],.b false 0 43 (j0 l st (l.length+1) [] 0).b.U])))
   (.c (j0 l st (l.length+1) [] 0).b.U.isEmpty (.g (.c,[.e 0 0,.e 1 0,.c .i64 (j0 l st (l.length+1) [] 0).e,.e 2 0],[.a false [.d 43 []],.a false [.c .i64 (gC s (j0 l st (l.length+1) [] 0).d).1,.c .i64 (gC s (j0 l st (l.length+1) [] 0).d).2],.a false [.w]]))
    (.g (.c,[.e 0 0,.e 1 0,.c .i64 (j0 l st (l.length+1) [] 0).e,.e 2 0],[.a false [.d 43 []],.a false [.c .i64 (gC s (j0 l st (l.length+1) [] 0).d).1,.c .i64 (gC s (j0 l st (l.length+1) [] 0).d).2],.a false [.y 43 3 0 (j0 l st (l.length+1) [] 0).b.U.length],.b false 0 43 (j0 l st (l.length+1) [] 0).b.U]))))
 |_,_=>.d
def az3:cJ an DU um U7:=by
 intro m_ key vs os r h;unfold U7 at h;split at h
 ·rename_i l n s st;obtain⟨h1,h2⟩:=aO h;simp only[au,bC]at h1;obtain⟨⟨⟨⟨⟨hl,hn⟩,bg⟩,hs⟩,hm⟩,hk⟩:=h1;obtain rfl:=aV hm;obtain rfl:=aV hk;obtain rfl:=aV hn;have h8:=az2 s l st hl (aV bg) hs;unfold yY DV at h8;cases hc:(j0 l st (l.length+1) [] 0).c<;>cases hd:(j0 l st (l.length+1) [] 0).b.U.isEmpty<;>rw[hc,hd]at h2 h8<;>cases h2<;>exact h8
 ·simp[af.D]at h
def az4(s):(aI (ay an DU um U7) false f12 [.h s] []).D=((letI ai:List aa:=[ah 0,ah 0];letI ak:=jW s;letI aw:=(↑ak.length:Int);letI aS:=List.take aw.toNat ak++ [AL 0 [] (↑s.length:Int)];letI bx:=j0 ak aS (ak.length+1) [] (0:Int);letI bX:=bx.b.U.isEmpty;letI cI:af aC:=al (.q [.u [.d 43 []],.u [ah (gC s bx.d).fst,ah (gC s bx.d).snd],ah bx.e]) [];af.c (decide ((↑s.length:Int)>8192)) (al (.q [.u [.w],.u ai,ah 9]) []) (.c (decide (s.length<=4294967295)) (.c (KZ s !=0) (.c (decide (s.length<=281474976710656)) (al (.q [.u [.d 43 []],.u [ah (gC s (Gh s)).fst,ah (gC s (Gh s)).snd],ah 7]) []) .d) (.c (decide (0<=aw) &&decide (aw<=aw) &&decide (aw=aw)) (.c (decide ((List.take aw.toNat ak).length+1<=4294967296)) (.c (fq ak &&aS.length.beq aS.length &&aS.length.beq (ak.length+1) &&decide (s.length<=281474976710656) &&Nat.beq 0 0 &&Nat.beq 10 10) (.c (bx.c) (.c bX (al (.q [.u [.w],.u ai,ah 0]) []) (al (.q [.u [.d 43 bx.b.U],.u ai,ah 0]) [])) (.c bX cI cI)) .d) .d) .d)) .d)):af aC).D:=ae
def wQ(s:List UInt8):List aa:=List.take ((jW s).length:Int).toNat (jW s)++ [AL 0 [] s.length]
def G7(s:List UInt8):b6:=j0 (jW s) (wQ s) ((jW s).length+1) [] 0
def ig(s:List UInt8):List aa×(Int×Int)×Int:=bif decide ((s.length:Int)>8192)then([],(0,0),9)else bif KZ s !=0 then([],gC s (Gh s),7)else
 bif (G7 s).c then((G7 s).b.U,(0,0),0)else([],gC s (G7 s).d,(G7 s).e)
def agd(r:List aa×(Int×Int)×Int):aC:=.a (.q [.u [.d 43 r.1],Dl r.2.1.1 r.2.1.2,.c .i64 r.2.2]) []
def U8:aq| [.h s],[]=>.g (.a (.q [.u [.d 43 (ig s).1],Dl (ig s).2.1.1 (ig s).2.1.2,.c .i64 (ig s).2.2]) []) |_,_=>.d
def age{b:Int}:dO (.g (.a (.q [.u [.w],.u [.c .i64 a,.c .i64 b],.c .i64 e]) [])) (agd ([],(a,b),e)):=.nL (.a _ (.U (.I (.V (.I (.D _) .U)) (.D _ (.D _ .U)))))
def az5:aH 12 U8:=yi aW c_ (aA arH (aA azY (aA azV aQ))) Up rfl az3 λp q r h=>by
 unfold U8 at h;split at h
 ·rename_i s;cases h;show dO _ (agd (ig s));refine .V (az4 s) (.I (λ_=>age) λh3=> ?_);have g3:=eS h3;have hs:s.length<=8192:=ab;have hl:=arE s ab;have hk:=arF s ab;refine .D (aD (show s.length<=4294967295 from ab)) (.I (λ_=>.D (aD (show s.length<=281474976710656 from ab)) (.U rfl)) λ_=> ?_);have ht:List.take ((jW s).length:Int).toNat (jW s)=jW s:=by rw[dE,pL (bj _)]
  refine .D (by rw[aD (show(0:Int)<=((jW s).length:Int)from ab),aD (j1 _),aD rfl];rfl) (.D (aD (by show(List.take ((jW s).length:Int).toNat (jW s)).length+1<=4294967296;rw[ht];omega)) ?_);refine .D ?_ ?_
  ·have e1:Nat.beq (wQ s).length (wQ s).length=true:=gq _;have e2:Nat.beq (wQ s).length ((jW s).length+1)=true:=by
    have:(wQ s).length=(jW s).length+1:=by unfold wQ;rw[ht];simp
    rw[this];exact gq _
   have e3:fq (jW s)=true:=by unfold fq;rw[hk,aD (show(jW s).length<=1000000 from ab)];rfl
   show(fq (jW s) &&Nat.beq (wQ s).length (wQ s).length &&Nat.beq (wQ s).length ((jW s).length+1) &&decide (s.length<=281474976710656) &&Nat.beq 0 0 &&Nat.beq 10 10)=true;rw[e1,e2,e3,aD (show s.length<=281474976710656 from ab)];rfl
  ·refine .I (λh4=>.kL (λh5=> ?_) λ_=>.U rfl) λh4=>.kL (λh5=>.U rfl) λ_=>.U rfl;have h6:(G7 s).b.U=[]:=List.isEmpty_iff.1 h5;rw[h6];exact age
 ·cases h
def Me:=aR 49 uo ae
def agf:=aR 28 Av ae
def az6:=aR 19 Ro ae
def az7:=aR 41 Rp ae
def az8:=aR 131 Rq ae
def az9:=aR 50 Rr ae
def n8(nm:List UInt8)(x:aa)(rs:Int):aj:=.a false [.h nm,x,.c .i64 rs]
def az_(nm rs len i ps):(cB (ay an (aL []) uo aK) 0 3 (cq uo 0) [.e 0 0,.e 1 0,.d 101 ps,ah len,ah i] [n8 [] .w 0,n8 nm .w rs]).D=((af.c (decide (i<len)) (.c (decide (0<=i) &&decide (i<(↑ps.length:Int))) (.g ((.b,[.e 0 0,.e 1 0,.d 101 ps,ah len,ah (i64.wrap (i+1))],[az [.h [],.w,ah 0],az [.h nm,.y 3 2 0 1,ah rs],.b false 0 3 [ah ((ps.getD i.toNat .m).D 1).I]]))) .d) (.g ((.a 0,[.e 0 0,.e 1 0],[az [.h [],.w,ah 0],az [.h nm,.w,ah rs]]))))).D:=ae
def agh(nm rs len i ps x n):(cB (ay an (aL []) uo aK) 0 3 (cq uo 0) [.e 0 0,.e 1 0,.d 101 ps,ah len,ah i] [n8 [] .w 0,n8 nm (.y 3 2 0 n) rs,.b false 0 3 x]).D=((letI ai:=x++ [aa.c .i64 ((ps.getD i.toNat .m).D 1).I];af.c (decide (i<len)) (.c (decide (0<=i) &&decide (i<(↑ps.length:Int))) (.c (decide (x.length+1<=4294967296)) (.g ((.b,[.e 0 0,.e 1 0,.d 101 ps,ah len,ah (i64.wrap (i+1))],[az [.h [],.w,ah 0],az [.h nm,.y 3 2 0 ai.length,ah rs],.b false 0 3 ai]))) .d) .d) (.g ((.a 0,[.e 0 0,.e 1 0],[az [.h [],.w,ah 0],az [.h nm,.y 3 2 0 n,ah rs],.b false 0 3 x])))):af (aU×List aa×List aj)).D:=ae
def rE(p:aa):aa:=.c .i64 (p.D 1).I
def rF(nm:List UInt8)(ts:List aa)(rs:Int):aa:=.u [.h nm,.d 3 ts,.c .i64 rs]
def U9(nm:List UInt8)(rs:Int)(y:List aa):aU×List aa×List aj:=(.a 0,[.e 0 0,.e 1 0],[n8 [] .w 0,n8 nm (.y 3 2 0 y.length) rs,.b false 0 3 y])
def agi(nm)(rs:Int)(ps)(hp:ps.length<=1000):∀(k i:Nat)(x:List aa),i+k=ps.length->x.length<=i->
  bw an (aL []) uo 0 3 [.e 0 0,.e 1 0,.d 101 ps,.c .i64 (ps.length:Int),.c .i64 i] [n8 [] .w 0,n8 nm (.y 3 2 0 x.length) rs,.b false 0 3 x] (U9 nm rs (x++(ps.drop i).map rE))
 |0,i,x,h,hx=>by refine eB.V Me 0 ae ae cv (agh nm rs (ps.length:Int) i ps x x.length) (.sJ (by rw[show i=ps.length from ab];exact mP ps) ?_);rw[tz ab,Eu,zk];exact .I rfl rfl
 |k+1,i,x,h,hx=>by
  have hi:i<ps.length:=ab;have hd:ps.drop i=ps[i]::ps.drop (i+1):=oY hi;have hg:ps.getD i .m=ps[i]:=by rw[dD,cV hi];rfl
  have bg:=agh nm rs (ps.length:Int) i ps x x.length;rw[mn hi (by have:bP=9223372036854775807:=rfl;omega),dE,hg]at bg;refine eB.V Me 0 ae ae cv bg (.D (mm hi) (.D (jk hi) (.D (aD (show x.length+1<=4294967296 from ab)) (.mR ?_))));have:=agi nm rs ps hp k (i+1) (x++ [rE ps[i]]) ab (by simp;omega);rw[hd,lX];rw[jb]at this;exact this
def agj(nm:List UInt8)(rs:Int)(ps:List aa):aU×List aa×List aj:=bif ps.isEmpty then(.a 0,[.e 0 0,.e 1 0],[n8 [] .w 0,n8 nm .w rs])else U9 nm rs (ps.map rE)
def az'(nm)(rs:Int)(ps)(hp:ps.length<=1000):
  bw an (aL []) uo 0 3 [.e 0 0,.e 1 0,.d 101 ps,.c .i64 (ps.length:Int),.c .i64 0] [n8 [] .w 0,n8 nm .w rs] (agj nm rs ps):=by
 refine eB.V Me 0 ae ae cv (az_ nm rs (ps.length:Int) 0 ps) ?_;cases ps with
 |nil=>exact .sJ rfl (.I rfl rfl)
 |cons p r=>refine .D (mm (n:=0) aB) (.D (jk (n:=0) aB) (.mR ?_));exact agi nm rs (p::r) hp r.length 1 [rE p] (by simp;omega) aB
def U_:dk:=λm_ key vs os=>match vs,os with
 | [.e 0 0,.e 1 0,.d 101 ps,.c .i64 len,.c .i64 0],[.a false [.h [],.w,.c .i64 0],.a false [.h nm,.w,.c .i64 rs]]=>
  .I (decide (ps.length<=1000) &&decide (len=(ps.length:Int)) &&Nat.beq m_ 0 &&Nat.beq key 3) (.c ps.isEmpty (.g (.a 0,[.e 0 0,.e 1 0],[n8 [] .w 0,n8 nm .w rs]))
   (.g (.a 0,[.e 0 0,.e 1 0],[n8 [] .w 0,n8 nm (.y 3 2 0 (ps.map rE).length) rs,.b false 0 3 (ps.map rE)])))
 |_,_=>.d
def aAa:cJ an (aL []) uo U_:=by
 intro m_ key vs os r h;unfold U_ at h;split at h
 ·rename_i ps len nm rs;obtain⟨h1,h2⟩:=aO h;simp only[au,bC,aNx]at h1;obtain⟨⟨⟨hp,rfl⟩,rfl⟩,rfl⟩:=h1;have h8:=az' nm rs ps hp;unfold agj U9 at h8;cases hd:ps.isEmpty<;>rw[hd]at h2 h8<;>cases h2<;>exact h8
 ·simp[af.D]at h
def aAb(nm ps rs bo ct):(aI (ay an (aL []) uo U_) false f49 [aG nm ps rs bo ct] []).D=((af.c (decide (ps.length<=1000) &&decide ((↑ps.length:Int)=(↑ps.length:Int)) &&Nat.beq 0 0 &&Nat.beq 3 3) (.c (ps.isEmpty) (al (.u [.h nm,.w,ah rs]) []) (al (rF nm (List.map rE ps) rs) [])) .d)).D:=ae
def U':aq| [.u [.h nm,.d 101 ps,.c .i64 rs,.d 97 _,.c .i64 _]],[]=>.I (decide (ps.length<=1000)) (.g (.a (rF nm (ps.map rE) rs) [])) |_,_=>.d
def aAc:aH 49 U':=yi aW c_ aQ Me rfl aAa λp q r h=>by
 unfold U' at h;split at h
 ·rename_i nm ps rs bo ct;obtain⟨h1,h2⟩:=aO h;cases h2;refine .V (aAb nm ps rs bo ct) (.D ?_ (.kL (λh3=> ?_) λ_=>.U rfl))
  ·have h1':decide (ps.length<=1000)=true:=h1;rw[h1',aD rfl];rfl
  ·have h4:ps=[]:=List.isEmpty_iff.1 h3;subst h4;exact .nL (.a _ (.V (.D _ (.I (.D _) (.D _ .U)))))
 ·cases h
def G8(n1:List UInt8)(p1:List aa)(r1:Int)(n2:List UInt8)(p2:List aa)(r2:Int):Bool:=n1==n2 &&cf fW p1 p2 &&r1==r2
def Va:aq| [.u [.h n1,.d 3 p1,.c .i64 r1],.u [.h n2,.d 3 p2,.c .i64 r2]],[]=>.I (decide (p1.length<=bP)) (.g (.a (.p (G8 n1 p1 r1 n2 p2 r2)) [])) |_,_=>.d
def aAd:FuncId->aq:=aL [(89,Gw)]
def aAe(n1 p1 r1 n2 p2 r2):(aI (ay an aAd Rr aK) false f50 [rF n1 p1 r1,rF n2 p2 r2] []).D=((af.c (n1==n2) (.c (decide (p1.length<=cg)) (.c (cf fW p1 p2) (al (.p (r1==r2)) []) (al (.p false) [])) .d) (al (.p false) []))).D:=ae
def Mf:FuncId->aq:=aL [(27,wz),(49,U'),(50,Va)]
def agk(fs ks vs x n len i):(cB (ay an Mf Av aK) 0 7 (cq Av 0) [.y 48 0 0 n,.F 1,.d 43 fs,ah len,ah i] [.b false 0 48 x,.d false 115 ks vs]).D=((letI ai:=fs.getD i.toNat .m;letI ak:=List.map rE (ai.D 1).U;letI aw:=x++ [rF (ai.D 0).bJ ak (ai.D 2).I];af.c (decide (i<len)) (.c (decide (0<=i) &&decide (i<(↑fs.length:Int))) (.c ((iN {a:=1,b:=false,e:=16,d:=[bY.b],c:=mK.b,f:=false} (.h (ai.D 0).bJ) ks vs).isSome) (.g ((.c,[.y 48 0 0 0,ah i,ah 11,.y 48 1 0 n,.F 2],[.b false 0 48 [],.b false 0 48 x,.d false 115 ks vs]))) (.c (decide ((ai.D 1).U.length<=1000)) (.c (decide (x.length+1<=4294967296)) (.g ((.b,[.y 48 0 0 aw.length,.F 1,.d 43 fs,ah len,ah (i64.wrap (i+1))],[.b false 0 48 aw,.d false 115 (fL {a:=1,b:=false,e:=16,d:=[bY.b],c:=mK.b,f:=false} (.h (ai.D 0).bJ) (rF (ai.D 0).bJ ak (ai.D 2).I) ks vs).fst (fL {a:=1,b:=false,e:=16,d:=[bY.b],c:=mK.b,f:=false} (.h (ai.D 0).bJ) (rF (ai.D 0).bJ ak (ai.D 2).I) ks vs).snd]))) .d) .d)) .d) (.g ((.a 0,[.m,.m,.m,.y 48 0 0 n,.F 1],[.b false 0 48 x,.d false 115 ks vs])))):af (aU×List aa×List aj)).D:=ae
def aAf:aH 50 Va:=bI (aA TA aQ) az9 λp q r h=>by
 unfold Va at h;split at h
 ·rename_i n1 p1 r1 n2 p2 r2;obtain⟨h1,h2⟩:=aO h;refine(aAe n1 p1 r1 n2 p2 r2).trans (bS ?_ h2);unfold G8;have h3:decide (p1.length<=nat_lit 9223372036854775807)=true:=h1;rw[h3];cases n1==n2<;>cases cf fW p1 p2<;>rfl
 ·cases h
def oR:bz:={a:=1,b:=false,e:=16,d:=[bY.b],c:=mK.b,f:=false}
def ta(f:aa):aa:=rF (fo f) ((iE f).map rE) (jY f)
structure tb where
 c:List aa
 b:List aa
 a:List aa
def qx(a:tb)(f:aa):tb⊕tb:=bif (iN oR (.h (fo f)) a.c a.b).isSome then .inl a else .inr ⟨(fL oR (.h (fo f)) (ta f) a.c a.b).1,(fL oR (.h (fo f)) (ta f) a.c a.b).2,a.a++ [ta f]⟩
def Vb(a:tb):List aj:=[.b false 0 48 a.a,.d false 115 a.c a.b]
def Vc(a:tb):aU×List aa×List aj:=(.c,[.y 48 0 0 0,.c .i64 a.a.length,.c .i64 11,.y 48 1 0 a.a.length,.F 2],[.b false 0 48 [],.b false 0 48 a.a,.d false 115 a.c a.b])
def agl(a:tb):aU×List aa×List aj:=(.a 0,[.m,.m,.m,.y 48 0 0 a.a.length,.F 1],Vb a)
def A5(f:aa):Bool:=decide ((iE f).length<=1000)
def aAg(fs)(hf:fs.all A5=true)(hl:fs.length<=1000):bw an Mf Av 0 7 [.y 48 0 0 0,.F 1,.d 43 fs,.c .i64 (fs.length:Int),.c .i64 0] (Vb ⟨[],[],[]⟩) (ml Vc agl (cR qx fs ⟨[],[],[]⟩)):=by
 refine pz agf 0 ae ae cv (λn a=> [.y 48 0 0 a.a.length,.F 1,.d 43 fs,.c .i64 (fs.length:Int),.c .i64 n]) (λ_ a=>Vb a) qx Vc agl (λn a=>a.a.length=n) fs ⟨[],[],[]⟩ rfl ?_ ?_
 ·intro n a hn hI;refine oF (agk fs a.c a.b a.a a.a.length (fs.length:Int) n) (dB (mm hn) (dB (jk hn) (jl (λ_=>ke ?_ rfl) λ_=>dB (ug hf hn) (dB (aD (show a.a.length+1<=4294967296 from ab)) (jI ?_ ?_)))))
  ·unfold Vc;rw[hI]
  ·rw[mn hn (by have:bP=9223372036854775807:=rfl;omega)];rfl
  ·show(a.a++ [ta (fs.getD n .m)]).length=n+1;simp;omega
 ·intro a hI;have e:=agk fs a.c a.b a.a a.a.length (fs.length:Int) fs.length;rw[mP]at e;exact⟨e,rfl⟩
def kS(fs:List aa):Bool×tb:=match cR qx fs ⟨[],[],[]⟩with | .inl a=>(true,a) | .inr a=>(false,a)
def Vd:dk:=λm_ key vs os=>match vs,os with
 | [.y 48 0 0 0,.F 1,.d 43 fs,.c .i64 len,.c .i64 0],[.b false 0 48 [],.d false 115 [] []]=>
  .I (fs.all A5 &&decide (fs.length<=1000) &&decide (len=(fs.length:Int)) &&Nat.beq m_ 0 &&Nat.beq key 7) (.c (kS fs).1 (.g (.c,[.y 48 0 0 0,.c .i64 (kS fs).2.a.length,.c .i64 11,.y 48 1 0 (kS fs).2.a.length,.F 2],[.b false 0 48 [],.b false 0 48 (kS fs).2.a,.d false 115 (kS fs).2.c (kS fs).2.b]))
   (.g (.a 0,[.m,.m,.m,.y 48 0 0 (kS fs).2.a.length,.F 1],[.b false 0 48 (kS fs).2.a,.d false 115 (kS fs).2.c (kS fs).2.b])))
 |_,_=>.d
def aAh:cJ an Mf Av Vd:=by
 intro m_ key vs os r h;unfold Vd at h;split at h
 ·rename_i fs len;obtain⟨h1,h2⟩:=aO h;simp only[au,bC,aNx]at h1;obtain⟨⟨⟨⟨hf,hl⟩,rfl⟩,rfl⟩,rfl⟩:=h1;have h8:=aAg fs hf hl;unfold kS at h2;cases hc:cR qx fs ⟨[],[],[]⟩<;>rw[hc]at h2 h8<;>cases h2<;>exact h8
 ·simp[af.D]at h
def aAi(fs):(aI (ay an Mf Av Vd) false f28 [.u [.d 43 fs]] []).D=((letI ai:=(↑fs.length:Int);letI ak:=kS fs;letI aw:=(iN {a:=1,b:=false,e:=16,d:=[bY.b],c:=mK.b,f:=false} (.h [109,97,105,110]) ak.snd.c ak.snd.b).getD .m;letI aS:af aC:=al (.q [.d 48 [],ah (-1:Int),ah 15]) [];af.c (eY (bF fs) !=0) (al (.q [.d 48 [],ah 0,ah (eY (bF fs))]) []) (.c (fs.all A5 &&decide (fs.length<=1000) &&decide (ai=ai) &&Nat.beq 0 0 &&Nat.beq 7 7) (.c (ak.fst) (al (.q [.d 48 [],ah (↑ak.snd.a.length:Int),ah 11]) []) (.c ((iN {a:=1,b:=false,e:=16,d:=[bY.b],c:=mK.b,f:=false} (.h [109,97,105,110]) ak.snd.c ak.snd.b).isSome) (.c (decide ((aw.D 1).U.length<=cg)) (.c (!G8 (aw.D 0).bJ (aw.D 1).U (aw.D 2).I [109,97,105,110] [] (0:Int)) aS (al (.q [.d 48 ak.snd.a,ah 0,ah 0]) [])) .d) aS)) .d)):af aC).D:=ae
def agm{T:bz}{k v}:∀{ks vs:List aa},iN T k ks vs=some v->v∈vs
 |x::xs,y::ys,h=>by
  unfold iN at h;split at h
  ·cases h;exact HS ..
  ·exact oX _ (agm h)
 | [],_,h=>by simp[iN]at h
 |_::_,[],h=>by simp[iN]at h
def agn{T:bz}{k v u}:∀{ks vs:List aa},u∈(fL T k v ks vs).2->u=v\/u∈vs
 |x::xs,y::ys,h=>by
  unfold fL at h;split at h
  ·rcases List.mem_cons.1 h with h |h
   ·exact .inl h
   ·exact .inr (oX _ h)
  ·rcases List.mem_cons.1 h with h |h
   ·exact .inr (h▸HS ..)
   ·rcases agn h with h |h
    ·exact .inl h
    ·exact .inr (oX _ h)
 | [],_,h=>by simp[fL]at h;exact .inl h
 |_::_,[],h=>by simp[fL]at h;exact .inl h
def Ve(a:tb):Prop:=∀v∈a.b,(v.D 1).U.length<=1000
def ago:∀(fs:List aa)(a:tb),fs.all A5=true->Ve a->Ve (match cR qx fs a with | .inl a=>a | .inr a=>a)
 | [],a,_,h=>h
 |f::r,a,hf,h=>by
  rw[ja,au]at hf;rw[cR];unfold qx;cases(iN oR (.h (fo f)) a.c a.b).isSome with
  |true=>exact h
  |false=>
   refine ago r _ hf.2 (λv hv=> ?_);rcases agn hv with rfl |hv
   ·have:(iE f).length<=1000:=ff hf.1;show((iE f).map rE).length<=1000;rw[gR];exact this
   ·exact h v hv
def aAj(hf:fs.all A5=true):Ve (kS fs).2:=by have:=ago fs ⟨[],[],[]⟩ hf (λv hv=>by cases hv);unfold kS;cases h:cR qx fs ⟨[],[],[]⟩<;>rw[h]at this<;>exact this
def Vf:List UInt8:=[109,97,105,110]
def wR(fs:List aa):Option aa:=iN oR (.h Vf) (kS fs).2.c (kS fs).2.b
def DW(fs:List aa):Bool:=(wR fs).isSome &&G8 (((wR fs).getD .m).D 0).bJ (((wR fs).getD .m).D 1).U (((wR fs).getD .m).D 2).I Vf [] 0
def ey(fs:List aa):List aa×Int×Int:=bif eY (bF fs) !=0 then([],0,eY (bF fs))else bif (kS fs).1 then([],(kS fs).2.a.length,11)else bif DW fs then((kS fs).2.a,0,0)else([], -1,15)
def Vg:aq| [.u [.d 43 fs]],[]=>.g (.a (.q [.d 48 (ey fs).1,.c .i64 (ey fs).2.1,.c .i64 (ey fs).2.2]) []) |_,_=>.d
def aAk(r:List aa×Int×Int):aC:=.a (.q [.d 48 r.1,.c .i64 r.2.1,.c .i64 r.2.2]) []
def Vh(h:bF fs=true):fs.all A5=true:=by unfold bF at h;rw[au]at h;rw[dS];intro f hf;have h1:=List.all_eq_true.1 h.2 f hf;unfold kN at h1;rw[au,au]at h1;have:=(Dt h1.1.1).2;exact aD ab
def aAl:aH 28 Vg:=dN aW c_ (aA yJ (aA aAc (aA aAf aQ))) agf rfl aAh λp q r h=>by
 unfold Vg at h;split at h
 ·rename_i fs;refine(aAi fs).trans (bS ?_ h);show _=some (aAk (ey fs));refine bK (λ_=>rfl) λh1=> ?_;have h2:bF fs=true:=by rw[GB]at h1;exact mQ h1
  have h3:=Vh h2;have h4:=Lt h2;refine aZ (by rw[h3,aD (show fs.length<=1000 from ab),aD rfl];rfl) (bK (λ_=>rfl) λh5=> ?_);unfold DW;cases h6:(wR fs).isSome with
  |false=>exact kK h6 rfl
  |true=>
   have h7:(((wR fs).getD .m).D 1).U.length<=1000:=by obtain⟨v,hv⟩:=Option.isSome_iff_exists.1 h6;rw[hv];exact aAj h3 v (agm hv)
   refine aZ h6 (aZ (aD (eb h7 av)) ?_);cases h8:G8 (((wR fs).getD .m).D 0).bJ (((wR fs).getD .m).D 1).U (((wR fs).getD .m).D 2).I Vf [] 0 with
   |true=>exact kK ((dh not h8).trans rfl) rfl
   |false=>exact aZ ((dh not h8).trans rfl) rfl
 ·cases h
def Vi:aq| [.u [.h s,.d 3 _,.c .i64 _],.e 0 0],[.a false [.h t]]=>.g (.a (.p (s==t)) [.a false [.h t]]) |_,_=>.d
def aAm(s t ts r):(aI (ay an (aL []) Rp aK) false f41 [rF s ts r,.e 0 0] [az [.h t]]).D=((af.g (aC.a (aa.p (s==t)) [aj.a false [aa.h t]]))).D:=ae
def aAn:aH 41 Vi:=bI aQ az7 λp q r h=>by
 unfold Vi at h;split at h
 ·exact(aAm _ _ _ _).trans h
 ·cases h
def Vj:FuncId->aq:=aL [(41,Vi)]
def agp:=aR 40 C' ae
def uQ(t:List UInt8):aa->Bool:=λv=>(v.D 0).bJ==t
def aAo(t vs len n):(cB (ay an Vj C' aK) 1 2 (cq C' 0) [.d 48 vs,.z 41 [] [.e 0 0],ah len,ah n] [az [.h t]]).D=((af.c (decide (n<len)) (.c (decide (0<=n) &&decide (n<(↑vs.length:Int))) (.c (((vs.getD n.toNat .m).D 0).bJ==t) (.g ((.c,[ah n],[az [.h t]]))) (.g ((.b,[.d 48 vs,.z 41 [] [.e 0 0],ah len,ah (i64.wrap (n+1))],[az [.h t]])))) .d) (.g ((.a 0,[.m],[az [.h t]]))))).D:=ae
def Vk:dk:=λm key vs os=>match vs,os with
 | [.d 48 vs,.z 41 [] [.e 0 0],.c .i64 len,.c .i64 0],[.a false [.h t]]=>.I (decide (len=(vs.length:Int)) &&decide (vs.length<=bP) &&Nat.beq m 1 &&Nat.beq key 2) (FV [.a false [.h t]] (bc (uQ t) vs 0))
 |_,_=>.d
def aAp:cJ an Vj C' Vk:=by
 intro m key vs os r h;unfold Vk at h;split at h
 ·rename_i vs len t;obtain⟨h1,h2⟩:=aO h;simp only[au,bC,aNx]at h1;obtain⟨⟨⟨rfl,hs⟩,rfl⟩,rfl⟩:=h1;rw[JX]at h2;injection h2 with h2;subst h2;exact FW agp 0 ae ae cv (λn=> [.d 48 vs,.z 41 [] [.e 0 0],.c .i64 vs.length,.c .i64 n]) [.a false [.h t]] (uQ t) vs hs (λn=>aAo t vs _ n) vs.length 0 ab
 ·simp[af.D]at h
def Vl:aq| [.d 48 vs,.z 41 [] [.e 0 0]],[.a false [.h t]]=>.I (decide (vs.length<=bP)) (.g (.a (.c .i64 (fH (bc (uQ t) vs 0))) [.a false [.h t]])) |_,_=>.d
def aAq(t vs):(aI (ay an Vj C' Vk) false f40 [.d 48 vs,.z 41 [] [.e 0 0]] [az [.h t]]).D=((af.c (decide ((↑vs.length:Int)=(↑vs.length:Int)) &&decide (vs.length<=cg) &&Nat.beq 1 1 &&Nat.beq 2 2) (.c ((bc (uQ t) vs 0).isSome) (al (ah (↑((bc (uQ t) vs 0).getD 0):Int)) [az [.h t]]) (al (ah (-1:Int)) [az [.h t]])) .d)).D:=ae
def aAr:aH 40 Vl:=dN aW c_ (aA aAn aQ) agp rfl aAp λp q r h=>by
 unfold Vl at h;split at h
 ·obtain⟨h1,h2⟩:=aO h;refine(aAq _ _).trans ?_;rw[<-h2];simp only[dA,fU];rw[if_pos (by simpa using (show _<=9223372036854775807 from ff h1))];cases bc _ _ 0<;>rfl
 ·cases h
def aAs:FuncId->aq:=aL [(40,Vl),(20,J0 3)]
def aAt(l t):(aI (ay an aAs Ro aK) false f19 [.d 48 l,.h t] []).D=((letI ai:=bc (uQ t) l 0;letI ak:=l.getD (fH ai).toNat .m;af.c (decide (l.length<=cg)) (.c (decide (fH ai<0)) (al (.q [.u [.h [],.w,ah 0],.p false]) []) (.c (decide (0<=fH ai) &&decide (fH ai<(↑l.length:Int))) (.c (Nat.beq 3 3 &&decide ((ak.D 1).U.length<=4294967296)) (al (.q [rF (ak.D 0).bJ (ak.D 1).U (ak.D 2).I,.p true]) []) .d) .d)) .d):af aC).D:=ae
def aAu(v:aa):aa:=rF (v.D 0).bJ (v.D 1).U (v.D 2).I
def qy(l:List aa)(t:List UInt8):Bool×aa:=match bc (uQ t) l 0 with |some i=>(true,l.getD i .m) |none=>(false,rF [] [] 0)
def pF(v:aa):Bool:=decide ((v.D 1).U.length<=4294967296)
def Mg:aq| [.d 48 l,.h t],[]=>.I (decide (l.length<=bP) &&l.all pF) (.g (.a (.q [aAu (qy l t).2,.p (qy l t).1]) [])) |_,_=>.d
def agq:aH 19 Mg:=pX (aA aAr (aA (ab1 ac3) aQ)) az6 λq r u h=>by
 unfold Mg at h;split at h
 ·rename_i l t;obtain⟨h1,h2⟩:=aO h;cases h2;rw[au]at h1;have hl:=CT (p:=uQ t) l 0;have bg:=aAt l t;unfold qy;cases hf:bc (uQ t) l 0 with
  |none=>rw[hf]at bg;exact .V bg (.D h1.1 (.D rfl (.nL (.a _ (.U (.I (.V (.D _ (.I (.D _) (.D _ .U)))) (.D _ .U)))))))
  |some i=>have hi:=(hl i hf).2;rw[hf,show fH (some i)=(i:Int)from rfl,dE]at bg;refine .V bg (.D h1.1 (.JV (ly (show ¬(i:Int)<0 from ab)) (.D (jk (show i<l.length from ab)) (.D ?_ (.U rfl)))));have:=ug h1.2 (show i<l.length from ab);rw[au];exact⟨rfl,this⟩
 ·cases h
def aAv:FuncId->aq:=aL [(19,Mg),(89,Gw)]
def aAw(l t ts r):(aI (ay an aAv Rq aK) false f131 [.d 48 l,.h t,.d 3 ts,ah r] []).D=((letI ai:=(qy l t).snd.D 1;af.c (decide (l.length<=cg) &&l.all pF) (.c (!(qy l t).fst) (.g (ia 11)) (.c (decide (ai.U.length<=cg)) (.c (!!cf fW ai.U ts) (.c (r !=0) (.c (r !=((qy l t).snd.D 2).I) (.g (ia 12)) (.g (ia 0))) (.g (ia 0))) (.g (ia 12))) .d)) .d):af aC).D:=ae
def Mh(l:List aa)(t:List UInt8)(ts:List aa)(r:Int):Int:=bif !(qy l t).1 then 11 else bif !!cf fW ((qy l t).2.D 1).U ts then(bif r !=0 then(bif r !=((qy l t).2.D 2).I then 12 else 0)else 0)else 12
def Vm:aq| [.d 48 l,.h t,.d 3 ts,.c .i64 r],[]=>.I (decide (l.length<=bP) &&l.all pF) (.g (.a (.c .i64 (Mh l t ts r)) [])) |_,_=>.d
def aAx{t}(h:l.all pF=true):((qy l t).2.D 1).U.length<=4294967296:=by
 unfold qy;cases hf:bc (uQ t) l 0 with
 |none=>exact ik _
 |some i=>exact ff (ug h (show i<l.length by have:=(CT l 0 i hf).2;omega))
def aAy:aH 131 Vm:=bI (aA agq (aA TA aQ)) az8 λp q u h=>by
 unfold Vm at h;split at h
 ·rename_i l t ts r;obtain⟨h1,h2⟩:=aO h;refine(aAw l t ts r).trans (bS (aZ h1 ?_) h2);rw[au]at h1;show _=some (ia (Mh l t ts r));exact bK (λ_=>rfl) λ_=>aZ (aD (eb (aAx h1.2) av)) (bK (λ_=>bK (λ_=>bK (λ_=>rfl) λ_=>rfl) λ_=>rfl) λ_=>rfl)
 ·cases h
def aAz:=aR 179 Rs ae
def aAA:=aR 172 Rt ae
def aAB:=aR 173 Ru ae
def agr:=aR 171 J' ae
def aAC:=aR 141 Rv ae
def aAD:=aR 128 Rw ae
def oS(nm:List UInt8)(ty no fr to:Int):aa:=.u [.h nm,.c .i64 ty,.c .i64 no,.c .i64 fr,.c .i64 to]
def Vn:aq| [.u [.h _,.c .i64 _,.c .i64 _,.c .i64 fr,.c .i64 to],.c .i64 p],[]=>.g (.a (.p (decide (fr<=p) &&decide (p<to))) []) |_,_=>.d
def aAE(nm ty no fr to p):(aI (ay an (aL []) Ru aK) false f173 [oS nm ty no fr to,ah p] []).D=((af.c (decide (fr<=p))
 (.g (aC.a (aa.p (decide (p<to))) []))
 (.g (aC.a (aa.p false) [])))).D:=ae
def aAF:aH 173 Vn:=bI aQ aAB λq r u h=>by
 unfold Vn at h;split at h
 ·rename_i nm ty no fr to p;refine(aAE nm ty no fr to p).trans (bS ?_ h);cases decide (fr<=p)<;>rfl
 ·cases h
def Vo:aq| [.u [.h nm,.c .i64 _,.c .i64 _,.c .i64 _,.c .i64 _],.e 0 0],[.a false [.h t]]=>.g (.a (.p (nm==t)) [.a false [.h t]]) |_,_=>.d
def aAG(nm t ty no fr to):(aI (ay an (aL []) Rs aK) false f179 [oS nm ty no fr to,.e 0 0] [az [.h t]]).D=((af.g (aC.a (aa.p (nm==t)) [aj.a false [aa.h t]]))).D:=ae
def aAH:aH 179 Vo:=bI aQ aAz λp q r h=>by
 unfold Vo at h;split at h
 ·exact(aAG _ _ _ _ _ _).trans h
 ·cases h
def Vp:aq| [.u [.h nm,.c .i64 _,.c .i64 _,.c .i64 fr,.c .i64 to],.e 0 0,.e 1 0],[.a false [.h t],.a false [.c .i64 p]]=>.g (.a (.p (nm==t && (decide (fr<=p) &&decide (p<to)))) [.a false [.h t],.a false [.c .i64 p]]) |_,_=>.d
def aAI:FuncId->aq:=aL [(173,Vn)]
def aAJ(nm t ty no fr to p):(aI (ay an aAI Rt aK) false f172 [oS nm ty no fr to,.e 0 0,.e 1 0] [az [.h t],az [ah p]]).D=((af.c (nm==t) (al (.p (decide (fr<=p) &&decide (p<to))) [az [.h t],cu p]) (al (.p false) [az [.h t],cu p]))).D:=ae
def aAK:aH 172 Vp:=bI (aA aAF aQ) aAA λq r u h=>by
 unfold Vp at h;split at h
 ·rename_i nm ty no fr to t p;refine(aAJ nm t ty no fr to p).trans (bS ?_ h);cases nm==t<;>rfl
 ·cases h
def Vq:FuncId->aq:=aL [(179,Vo)]
def Mi:=aR 210 uq ae
def dz(t:List UInt8):aa->Bool:=λv=>(v.D 0).bJ==t
def aAL(t vs len n):(cB (ay an Vq uq aK) 1 2 (cq uq 0) [.d 72 vs,.z 179 [] [.e 0 0],ah len,ah n] [az [.h t]]).D=((af.c (decide (n<len)) (.c (decide (0<=n) &&decide (n<(↑vs.length:Int))) (.c (((vs.getD n.toNat .m).D 0).bJ==t) (.g ((.c,[ah n],[az [.h t]]))) (.g ((.b,[.d 72 vs,.z 179 [] [.e 0 0],ah len,ah (i64.wrap (n+1))],[az [.h t]])))) .d) (.g ((.a 0,[.m],[az [.h t]]))))).D:=ae
def Vr:dk:=λm key vs os=>match vs,os with
 | [.d 72 vs,.z 179 [] [.e 0 0],.c .i64 len,.c .i64 0],[.a false [.h t]]=>.I (decide (len=(vs.length:Int)) &&decide (vs.length<=bP) &&Nat.beq m 1 &&Nat.beq key 2) (FV [.a false [.h t]] (bc (dz t) vs 0))
 |_,_=>.d
def aAM:cJ an Vq uq Vr:=by
 intro m key vs os r h;unfold Vr at h;split at h
 ·rename_i vs len t;obtain⟨h1,h2⟩:=aO h;simp only[au,bC,aNx]at h1;obtain⟨⟨⟨rfl,hs⟩,rfl⟩,rfl⟩:=h1;rw[JX]at h2;injection h2 with h2;subst h2;exact FW Mi 0 ae ae cv (λn=> [.d 72 vs,.z 179 [] [.e 0 0],.c .i64 vs.length,.c .i64 n]) [.a false [.h t]] (dz t) vs hs (λn=>aAL t vs _ n) vs.length 0 ab
 ·simp[af.D]at h
def Vs:aq| [.d 72 vs,.z 179 [] [.e 0 0]],[.a false [.h t]]=>.I (decide (vs.length<=bP)) (.g (.a (.c .i64 (fH (bc (dz t) vs 0))) [.a false [.h t]])) |_,_=>.d
def aAN(t vs):(aI (ay an Vq uq Vr) false f210 [.d 72 vs,.z 179 [] [.e 0 0]] [az [.h t]]).D=((af.c (decide ((↑vs.length:Int)=(↑vs.length:Int)) &&decide (vs.length<=cg) &&Nat.beq 1 1 &&Nat.beq 2 2) (.c ((bc (dz t) vs 0).isSome) (al (ah (↑((bc (dz t) vs 0).getD 0):Int)) [az [.h t]]) (al (ah (-1:Int)) [az [.h t]])) .d)).D:=ae
def aAO:aH 210 Vs:=dN aW c_ (aA aAH aQ) Mi rfl aAM λp q r h=>by
 unfold Vs at h;split at h
 ·obtain⟨h1,h2⟩:=aO h;refine(aAN _ _).trans ?_;rw[<-h2];simp only[dA,fU];rw[if_pos (by simpa using (show _<=9223372036854775807 from ff h1))];cases bc _ _ 0<;>rfl
 ·cases h
def Vt:FuncId->aq:=aL [(172,Vp)]
def kl(t:List UInt8)(q:Int):aa->Bool:=λv=>(v.D 0).bJ==t && (decide ((v.D 3).I<=q) &&decide (q<(v.D 4).I))
def aAP(t q vs len n):(cB (ay an Vt uq aK) 2 2 (cq uq 0) [.d 72 vs,.z 172 [] [.e 0 0,.e 1 0],ah len,ah n] [az [.h t],az [ah q]]).D=((letI ai:=vs.getD n.toNat .m;letI ak:List aj:=[az [.h t],cu q];af.c (decide (n<len)) (.c (decide (0<=n) &&decide (n<(↑vs.length:Int))) (.c ((ai.D 0).bJ==t && (decide ((ai.D 3).I<=q) &&decide (q<(ai.D 4).I))) (.g ((.c,[ah n],ak))) (.g ((.b,[.d 72 vs,.z 172 [] [.e 0 0,.e 1 0],ah len,ah (i64.wrap (n+1))],ak)))) .d) (.g ((.a 0,[.m],ak)))):af (aU×List aa×List aj)).D:=ae
def Vu:dk:=λm key vs os=>match vs,os with
 | [.d 72 vs,.z 172 [] [.e 0 0,.e 1 0],.c .i64 len,.c .i64 0],[.a false [.h t],.a false [.c .i64 q]]=>.I (decide (len=(vs.length:Int)) &&decide (vs.length<=bP) &&Nat.beq m 2 &&Nat.beq key 2) (FV [.a false [.h t],.a false [.c .i64 q]] (bc (kl t q) vs 0))
 |_,_=>.d
def aAQ:cJ an Vt uq Vu:=by
 intro m key vs os r h;unfold Vu at h;split at h
 ·rename_i vs len t q;obtain⟨h1,h2⟩:=aO h;simp only[au,bC,aNx]at h1;obtain⟨⟨⟨rfl,hs⟩,rfl⟩,rfl⟩:=h1;rw[JX]at h2;injection h2 with h2;subst h2;exact FW Mi 0 ae ae cv (λn=> [.d 72 vs,.z 172 [] [.e 0 0,.e 1 0],.c .i64 vs.length,.c .i64 n]) [.a false [.h t],.a false [.c .i64 q]] (kl t q) vs hs (λn=>aAP t q vs _ n) vs.length 0 ab
 ·simp[af.D]at h
def Vv:aq| [.d 72 vs,.z 172 [] [.e 0 0,.e 1 0]],[.a false [.h t],.a false [.c .i64 q]]=>.I (decide (vs.length<=bP)) (.g (.a (.c .i64 (fH (bc (kl t q) vs 0))) [.a false [.h t],.a false [.c .i64 q]])) |_,_=>.d
def aAR(t q vs):(aI (ay an Vt uq Vu) false f210 [.d 72 vs,.z 172 [] [.e 0 0,.e 1 0]] [az [.h t],az [ah q]]).D=((letI ai:=(↑vs.length:Int);af.c (decide (ai=ai) &&decide (vs.length<=cg) &&Nat.beq 2 2 &&Nat.beq 2 2) (.c ((bc (kl t q) vs 0).isSome) (al (ah (↑((bc (kl t q) vs 0).getD 0):Int)) [az [.h t],cu q]) (al (ah (-1:Int)) [az [.h t],cu q])) .d):af aC).D:=ae
def aAS:aH 210 Vv:=dN aW c_ (aA aAK aQ) Mi rfl aAQ λp q r h=>by
 unfold Vv at h;split at h
 ·obtain⟨h1,h2⟩:=aO h;refine(aAR _ _ _).trans ?_;rw[<-h2];simp only[dA,fU];rw[if_pos (by simpa using (show _<=9223372036854775807 from ff h1))];cases bc _ _ 0<;>rfl
 ·cases h
def aAT(t l):(aI (ay an (aL [(210,Vs)]) J' aK) false f171 [.d 72 l,.z 179 [] [.e 0 0]] [az [.h t]]).D=((af.c (decide (l.length<=cg)) (al (.q [ah (match decide (0>fH (bc (dz t) l 0))with |true=>0 |false=>fH (bc (dz t) l 0)),.p (decide (fH (bc (dz t) l 0)>=0))]) [az [.h t]]) .d)).D:=ae
def aAU(t q l):(aI (ay an (aL [(210,Vv)]) J' aK) false f171 [.d 72 l,.z 172 [] [.e 0 0,.e 1 0]] [az [.h t],az [ah q]]).D=((af.c (decide (l.length<=cg)) (al (.q [ah (match decide (0>fH (bc (kl t q) l 0))with |true=>0 |false=>fH (bc (kl t q) l 0)),.p (decide (fH (bc (kl t q) l 0)>=0))]) [az [.h t],cu q]) .d)).D:=ae
def gm(o:Option Nat):Int:=(o.getD 0:Nat)
def Vw:aq| [.d 72 l,.z 179 [] [.e 0 0]],[.a false [.h t]]=>.I (decide (l.length<=bP)) (.g (.a (.q [.c .i64 (gm (bc (dz t) l 0)),.p (bc (dz t) l 0).isSome]) [.a false [.h t]])) |_,_=>.d
def G9(o:Option Nat):decide ((0:Int)>fH o)= !o.isSome/\decide (fH o>=0)=o.isSome:=by
 cases o with
 |none=>exact⟨rfl,rfl⟩
 |some n=>exact⟨ly (show ¬(0:Int)>(n:Int)from ab),aD (show(n:Int)>=0 from ab)⟩
def aAV:aH 171 Vw:=bI (aA aAO aQ) agr λp q r h=>by
 unfold Vw at h;split at h
 ·rename_i l t;obtain⟨h1,h2⟩:=aO h;have bg:=aAT t l;rw[(G9 _).1,(G9 _).2]at bg;refine bg.trans (bS (aZ h1 ?_) h2);cases bc (dz t) l 0<;>rfl
 ·cases h
def Vx:aq| [.d 72 l,.z 172 [] [.e 0 0,.e 1 0]],[.a false [.h t],.a false [.c .i64 q]]=>.I (decide (l.length<=bP)) (.g (.a (.q [.c .i64 (gm (bc (kl t q) l 0)),.p (bc (kl t q) l 0).isSome]) [.a false [.h t],.a false [.c .i64 q]])) |_,_=>.d
def aAW:aH 171 Vx:=bI (aA aAS aQ) agr λp r u h=>by
 unfold Vx at h;split at h
 ·rename_i l t q;obtain⟨h1,h2⟩:=aO h;have bg:=aAU t q l;rw[(G9 _).1,(G9 _).2]at bg;refine bg.trans (bS (aZ h1 ?_) h2);cases bc (kl t q) l 0<;>rfl
 ·cases h
def G_:aq| [.d 72 l,.h t],[]=>.I (decide (l.length<=bP)) (.g (.a (.q [.c .i64 (gm (bc (dz t) l 0)),.p (bc (dz t) l 0).isSome]) [])) |_,_=>.d
def aAX(t l):(aI (ay an (aL [(171,Vw)]) Rv aK) false f141 [.d 72 l,.h t] []).D=((af.c (decide (l.length<=cg)) (al (.q [ah (gm (bc (dz t) l 0)),.p (bc (dz t) l 0).isSome]) []) .d)).D:=ae
def Vy:aH 141 G_:=bI (aA aAV aQ) aAC λp q r h=>by
 unfold G_ at h;split at h
 ·exact(aAX _ _).trans h
 ·cases h
def Mj:aq| [.d 72 l,.h t,.c .i64 q],[]=>.I (decide (l.length<=bP)) (.g (.a (.q [.c .i64 (gm (bc (kl t q) l 0)),.p (bc (kl t q) l 0).isSome]) [])) |_,_=>.d
def aAY(t q l):(aI (ay an (aL [(171,Vx)]) Rw aK) false f128 [.d 72 l,.h t,ah q] []).D=((af.c (decide (l.length<=cg)) (al (.q [ah (gm (bc (kl t q) l 0)),.p (bc (kl t q) l 0).isSome]) []) .d)).D:=ae
def ags:aH 128 Mj:=bI (aA aAW aQ) aAD λp q r h=>by
 unfold Mj at h;split at h
 ·exact(aAY _ _ _).trans h
 ·cases h
def aAZ:=aR 246 Rx ae
def aA0:=aR 247 Ry ae
def agt:=aR 245 Da ae
def aA1:=aR 268 RA ae
def aA2:=aR 214 RB ae
def aA3:=aR 215 RC ae
def aA4:=aR 212 RD ae
def agu:=aR 213 yr ae
def aA5:=aR 175 RE ae
def aA6:=aR 129 RF ae
def aA7:=aR 267 RG ae
def agv:=aR 275 Db ae
def yZ(a b c d:Int):aa:=.u [.c .i64 a,.c .i64 b,.c .i64 c,.c .i64 d]
def Vz:List aa:=[yZ 14 14 1 1,yZ 15 15 2 2]
def VA:List aa:=[yZ 1 5 1 1,yZ 6 11 1 2,yZ 6 7 2 2,yZ 12 13 2 2]
def VB:aq| [],[]=>.g (.a (.d 368 Vz) []) |_,_=>.d
def VC:aq| [],[]=>.g (.a (.d 368 VA) []) |_,_=>.d
def aA8:(aI (ay an (aL []) Rx aK) false f246 [] []).D=some (.a (.d 368 Vz) []):=ae
def aA9:(aI (ay an (aL []) Ry aK) false f247 [] []).D=some (.a (.d 368 VA) []):=ae
def aA_:aH 246 VB:=bI aQ aAZ λp q r h=>by
 unfold VB at h;split at h
 ·exact aA8.trans h
 ·cases h
def aA':aH 247 VC:=bI aQ aA0 λp q r h=>by
 unfold VC at h;split at h
 ·exact aA9.trans h
 ·cases h
def aBa(t a b c d):(aI (ay an (aL []) RA aK) false f268 [ah t,.e 0 0] [az [ah a,ah b,ah c,ah d]]).D=((af.g (.a (.p (t !=c)) [az [ah a,ah b,ah c,ah d]]))).D:=ae
def VD:aq| [.c .i64 t,.e 0 0],[.a false [.c .i64 a,.c .i64 b,.c .i64 c,.c .i64 d]]=>.g (.a (.p (t !=c)) [.a false [.c .i64 a,.c .i64 b,.c .i64 c,.c .i64 d]]) |_,_=>.d
def aBb:aH 268 VD:=bI aQ aA1 λp q r h=>by
 unfold VD at h;split at h
 ·exact(aBa _ _ _ _ _).trans h
 ·cases h
def VE:FuncId->aq:=aL [(268,VD)]
def qz(a b c d:Int):aa->Bool:=λv=>v.I !=c
def aBc(a b c d vs len n):(cB (ay an VE Db aK) 1 2 (cq Db 0) [.d 3 vs,.z 268 [] [.e 0 0],ah len,ah n] [az [ah a,ah b,ah c,ah d]]).D=((letI ai:List aj:=[az [ah a,ah b,ah c,ah d]];af.c (decide (n<len)) (.c (decide (0<=n) &&decide (n<(↑vs.length:Int))) (.c ((vs.getD n.toNat .m).I !=c) (.g ((.c,[ah n],ai))) (.g ((.b,[.d 3 vs,.z 268 [] [.e 0 0],ah len,ah (i64.wrap (n+1))],ai)))) .d) (.g ((.a 0,[.m],ai)))):af (aU×List aa×List aj)).D:=ae
def VF:dk:=λm key vs os=>match vs,os with
 | [.d 3 vs,.z 268 [] [.e 0 0],.c .i64 len,.c .i64 0],[.a false [.c .i64 a,.c .i64 b,.c .i64 c,.c .i64 d]]=>.I (decide (len=(vs.length:Int)) &&decide (vs.length<=bP) &&Nat.beq m 1 &&Nat.beq key 2) (FV [.a false [.c .i64 a,.c .i64 b,.c .i64 c,.c .i64 d]] (bc (qz a b c d) vs 0))
 |_,_=>.d
def aBd:cJ an VE Db VF:=by
 intro m key vs os r h;unfold VF at h;split at h
 ·rename_i vs len a b c d;obtain⟨h1,h2⟩:=aO h;simp only[au,bC,aNx]at h1;obtain⟨⟨⟨rfl,hs⟩,rfl⟩,rfl⟩:=h1;rw[JX]at h2;injection h2 with h2;subst h2;exact FW agv 0 ae ae cv (λn=> [.d 3 vs,.z 268 [] [.e 0 0],.c .i64 vs.length,.c .i64 n]) [.a false [.c .i64 a,.c .i64 b,.c .i64 c,.c .i64 d]] (qz a b c d) vs hs (λn=>aBc a b c d vs _ n) vs.length 0 ab
 ·simp[af.D]at h
def VG:aq| [.d 3 vs,.z 268 [] [.e 0 0]],[.a false [.c .i64 a,.c .i64 b,.c .i64 c,.c .i64 d]]=>.I (decide (vs.length<=bP)) (.g (.a (.c .i64 (fH (bc (qz a b c d) vs 0))) [.a false [.c .i64 a,.c .i64 b,.c .i64 c,.c .i64 d]])) |_,_=>.d
def aBe(a b c d vs):(aI (ay an VE Db VF) false f275 [.d 3 vs,.z 268 [] [.e 0 0]] [az [ah a,ah b,ah c,ah d]]).D=((letI ai:=(↑vs.length:Int);letI ak:=bc (qz a b c d) vs 0;letI aw:List aj:=[az [ah a,ah b,ah c,ah d]];af.c (decide (ai=ai) &&decide (vs.length<=cg) &&Nat.beq 1 1 &&Nat.beq 2 2) (.c (ak.isSome) (al (ah (↑(ak.getD 0):Int)) aw) (al (ah (-1:Int)) aw)) .d):af aC).D:=ae
def aBf:aH 275 VG:=dN aW c_ (aA aBb aQ) agv rfl aBd λp q r h=>by
 unfold VG at h;split at h
 ·obtain⟨h1,h2⟩:=aO h;refine(aBe _ _ _ _ _).trans ?_;rw[<-h2];simp only[dA,fU];rw[if_pos (by simpa using (show _<=9223372036854775807 from ff h1))];cases bc _ _ 0<;>rfl
 ·cases h
def VH:aq| [.d 3 vs,.z 268 [] [.e 0 0]],[.a false [.c .i64 a,.c .i64 b,.c .i64 c,.c .i64 d]]=>.I (decide (vs.length<=bP)) (.g (.a (.p (bc (qz a b c d) vs 0).isSome) [.a false [.c .i64 a,.c .i64 b,.c .i64 c,.c .i64 d]])) |_,_=>.d
def aBg(a b c d vs):(aI (ay an (aL [(275,VG)]) RG aK) false f267 [.d 3 vs,.z 268 [] [.e 0 0]] [az [ah a,ah b,ah c,ah d]]).D=((af.c (decide (vs.length<=cg)) (al (.p (decide (fH (bc (qz a b c d) vs 0)>=0))) [az [ah a,ah b,ah c,ah d]]) .d)).D:=ae
def agw:aH 267 VH:=bI (aA aBf aQ) aA7 λp q r h=>by
 unfold VH at h;split at h
 ·obtain⟨h1,h2⟩:=aO h;refine(aBg _ _ _ _ _).trans (bS (aZ h1 ?_) h2);rw[(G9 _).2]
 ·cases h
def Mk:FuncId->aq:=aL [(267,VH)]
def aBh(op x):(aI (ay an Mk Da (cG an Mk Da 6 6).d) false f245 [.d 368 Vz,ah op,.d 3 [ah x]] []).D=((letI ai:af aC:=al (.q [ah 0,ah 2]) [];letI ak:af aC:=al (.q [ah 0,ah 12]) [];letI aw:af aC:=.c (!(bc (qz 15 15 2 2) [ah x] 0).isSome) (al (.q [ah 2,ah 0]) []) ak;letI aS:af aC:=.c (!decide (op<15)) (.c (decide (op>15)) ai aw) ai;af.c (!decide (op<14)) (.c (decide (op>14)) aS (.c (!(bc (qz 14 14 1 1) [ah x] 0).isSome) (al (.q [ah 1,ah 0]) []) (.c (!decide (op<15)) (.c (decide (op>15)) ak aw) ak))) aS):af aC).D:=ae
def aBi(op x y):(aI (ay an Mk Da (cG an Mk Da 6 6).d) false f245 [.d 368 VA,ah op,.d 3 [ah x,ah y]] []).D=((letI ai:= !decide (op<6);letI ak:af aC:=al (.q [ah 0,ah 2]) [];letI aw:List aa:=[ah x,ah y];letI aS:af aC:=al (.q [ah 2,ah 0]) [];letI bx:af aC:=al (.q [ah 0,ah 12]) [];letI bX:af aC:=.c (!(bc (qz 12 13 2 2) aw 0).isSome) aS bx;letI cI:af aC:=.c (!decide (op<12)) (.c (decide (op>13)) ak bX) ak;letI fi:af aC:=.c (!decide (op<12)) (.c (decide (op>13)) bx bX) bx;letI eA:af aC:=.c (!(bc (qz 6 7 2 2) aw 0).isSome) aS fi;letI jC:af aC:=.c ai (.c (decide (op>7)) cI eA) cI;letI iw:af aC:=.c ai (.c (decide (op>7)) fi eA) fi;letI gv:af aC:=.c (!(bc (qz 6 11 1 2) aw 0).isSome) aS iw;letI ny:af aC:=.c ai (.c (decide (op>11)) jC gv) jC;af.c (!decide (op<1)) (.c (decide (op>5)) ny (.c (!(bc (qz 1 5 1 1) aw 0).isSome) (al (.q [ah 1,ah 0]) []) (.c ai (.c (decide (op>11)) iw gv) iw))) ny):af aC).D:=ae
structure A6 where
 a:Int
 b:Int
 d:Int
 c:Int
def kT(op:Int)(ts:List aa):List A6->Bool->Int×Int
 | [],known=>bif known then(0,12)else(0,2)
 |q::l,known=>bif !decide (op<q.a)then(bif decide (op>q.b)then kT op ts l known else bif !(bc (qz q.a q.b q.d q.c) ts 0).isSome then(q.c,0)else kT op ts l true)else kT op ts l known
def tc:List A6:=[⟨14,14,1,1⟩,⟨15,15,2,2⟩]
def td:List A6:=[⟨1,5,1,1⟩,⟨6,11,1,2⟩,⟨6,7,2,2⟩,⟨12,13,2,2⟩]
def G'(r:Int×Int):aC:=.a (.q [.c .i64 r.1,.c .i64 r.2]) []
def VI(v:aa)(q:A6):Bool:=match v with | .u [.c .i64 a,.c .i64 b,.c .i64 c,.c .i64 d]=>a==q.a && (b==q.b && (c==q.d &&d==q.c)) |_=>false
def Ha:List aa->List A6->Bool
 | [],[]=>true
 |v::r,p::q=>VI v p &&Ha r q
 |_,_=>false
def aBj{q:A6}(h:VI v q=true):v=yZ q.a q.b q.d q.c:=by
 unfold VI at h;split at h
 ·rw[au,au,au,qM,qM,qM,qM]at h;obtain⟨rfl,rfl,rfl,rfl⟩:=h;rfl
 ·cases h
def VJ:∀{l:List aa}{q:List A6},Ha l q=true->l=q.map λq=>yZ q.a q.b q.d q.c
 | [],[],_=>rfl
 |v::r,p::q,h=>by rw[Ha,au]at h;rw[aBj h.1,VJ h.2];rfl
 | [],_::_,h=>by cases h
 |_::_,[],h=>by cases h
def VK:aq| [.d 368 l,.c .i64 op,.d 3 [.c .i64 x]],[]=>.I (Ha l tc) (.g (.a (.q [.c .i64 (kT op [.c .i64 x] tc false).1,.c .i64 (kT op [.c .i64 x] tc false).2]) [])) |_,_=>.d
def VL:aq| [.d 368 l,.c .i64 op,.d 3 [.c .i64 x,.c .i64 y]],[]=>.I (Ha l td) (.g (.a (.q [.c .i64 (kT op [.c .i64 x,.c .i64 y] td false).1,.c .i64 (kT op [.c .i64 x,.c .i64 y] td false).2]) [])) |_,_=>.d
def aBk:aH 245 VK:=dN aW c_ (aA agw aQ) agt rfl (sH 6) λp q r h=>by
 unfold VK at h;split at h
 ·rename_i l op x;obtain⟨h1,h2⟩:=aO h;obtain rfl:=VJ h1;refine(aBh op x).trans (bS ?_ h2);show _=some (G' (kT op [.c .i64 x] tc false));unfold tc
  repeat' (first |refine bK (λ_=> ?_) (λ_=> ?_) |rfl)
 ·cases h
def aBl:aH 245 VL:=dN aW c_ (aA agw aQ) agt rfl (sH 6) λp q r h=>by
 unfold VL at h;split at h
 ·rename_i l op x y;obtain⟨h1,h2⟩:=aO h;obtain rfl:=VJ h1;refine(aBi op x y).trans (bS ?_ h2);show _=some (G' (kT op [.c .i64 x,.c .i64 y] td false));unfold td
  repeat' (first |refine bK (λ_=> ?_) (λ_=> ?_) |rfl)
 ·cases h
def aBm(op x):(aI (ay an (aL [(246,VB),(245,VK)]) RB aK) false f214 [ah op,ah x] []).D=((af.g (.a (.q [ah (kT op [ah x] tc false).fst,ah (kT op [ah x] tc false).snd]) []))).D:=ae
def aBn(op x y):(aI (ay an (aL [(247,VC),(245,VL)]) RC aK) false f215 [ah op,ah x,ah y] []).D=((af.g (.a (.q [ah (kT op [ah x,ah y] td false).fst,ah (kT op [ah x,ah y] td false).snd]) []))).D:=ae
def VM:aq| [.c .i64 op,.c .i64 x],[]=>.g (.a (.q [.c .i64 (kT op [.c .i64 x] tc false).1,.c .i64 (kT op [.c .i64 x] tc false).2]) []) |_,_=>.d
def VN:aq| [.c .i64 op,.c .i64 x,.c .i64 y],[]=>.g (.a (.q [.c .i64 (kT op [.c .i64 x,.c .i64 y] td false).1,.c .i64 (kT op [.c .i64 x,.c .i64 y] td false).2]) []) |_,_=>.d
def aBo:aH 214 VM:=bI (aA aA_ (aA aBk aQ)) aA2 λp q r h=>by
 unfold VM at h;split at h
 ·exact(aBm _ _).trans h
 ·cases h
def aBp:aH 215 VN:=bI (aA aA' (aA aBl aQ)) aA3 λp q r h=>by
 unfold VN at h;split at h
 ·exact(aBn _ _ _).trans h
 ·cases h
def VO(l:List aa)(p:Int):aa:=.u [.d 72 l,.c .i64 p]
def wS(l:List aa)(p:Int)(t:List UInt8):Int×Int:=match bc (kl t p) l 0 with |some i=>(((l.getD i .m).D 1).I,0) |none=>(0,11)
def VP:aq| [.u [.d 72 l,.c .i64 p],.h t],[]=>.I (decide (l.length<=bP)) (.g (.a (.q [.c .i64 (wS l p t).1,.c .i64 (wS l p t).2]) [])) |_,_=>.d
def aBq(l p t):(aI (ay an (aL [(128,Mj)]) RD aK) false f212 [VO l p,.h t] []).D=((letI ai:=bc (kl t p) l 0;af.c (decide (l.length<=cg)) (.c (!ai.isSome) (al (.q [ah 0,ah 11]) []) (.c (decide (0<=gm ai) &&decide (gm ai<(↑l.length:Int))) (al (.q [ah ((l.getD (gm ai).toNat .m).D 1).I,ah 0]) []) .d)) .d):af aC).D:=ae
def aBr:aH 212 VP:=bI (aA ags aQ) aA4 λq r u h=>by
 unfold VP at h;split at h
 ·rename_i l p t;obtain⟨h1,h2⟩:=aO h;have bg:=aBq l p t;have hl:=CT (p:=kl t p) l 0;refine bg.trans (bS (aZ h1 ?_) h2);unfold wS;cases hf:bc (kl t p) l 0 with
  |none=>rfl
  |some i=>have hi:=(hl i hf).2;exact kK rfl (aZ (jk (show i<l.length from ab)) rfl)
 ·cases h
def lS(f:aa->Int×Int)(x:List aa)(e:aa):(List aa×Int)⊕List aa:=bif (f (bB e)).2 !=0 then .inl (x,(f (bB e)).2)else .inr (x++ [.c .i64 (f (bB e)).1])
def kU(f:aa->Int×Int)(l:List aa):List aa×Int:=match cR (lS f) l []with | .inl a=>([],a.2) | .inr x=>(x,0)
def aBs(k op own:Int)(ts:List aa):Int×Int:=bif k==1 then(1,0)else bif k==2 then(2,0)else bif k==3 then(own,0)else
  bif k==4 then kT op [.c .i64 (ts.getD (Int.toNat 0) .m).I] tc false else
  bif k==5 then kT op [.c .i64 (ts.getD (Int.toNat 0) .m).I,.c .i64 (ts.getD (Int.toNat 1) .m).I] td false else
  bif k==6 then(bif (ts.getD (Int.toNat 0) .m).I !=1 then(0,12)else bif own !=3 then(0,12)else(1,0))else
  bif own !=3 then(0,12)else(1,0)
def agx(f:aa->Int×Int)(k op own:Int)(ar:List aa):Int×Int:=bif (kU f ar).2 !=0 then(0,(kU f ar).2)else aBs k op own (kU f ar).1
def ln(l:List aa)(p:Int):Nat->aa->Int×Int
 |0,_=>(0,12)
 |m+1,e=>bif !((e.D 3).bJ==[])then(bif (wS l p (e.D 3).bJ).2 !=0 then(0,(wS l p (e.D 3).bJ).2)else agx (ln l p m) (e.D 0).I (e.D 1).I (wS l p (e.D 3).bJ).1 (e.D 4).U)else agx (ln l p m) (e.D 0).I (e.D 1).I 0 (e.D 4).U
def DX(m:Nat):aq
 | [.u [.d 72 l,.c .i64 p],.u [.c .i64 k,.c .i64 op,.c .i64 num,.h nm,.d 177 ar]],[]=>
  .I (!(cW m (b9 k op num nm ar)==0) &&decide (l.length<=bP)) (.g (.a (.q [.c .i64 (ln l p m (b9 k op num nm ar)).1,.c .i64 (ln l p m (b9 k op num nm ar)).2]) []))
 |_,_=>.d
def Hb(m:Nat):FuncId->aq:=aL [(175,DX m)]
def agy(m l es x p len i n):(cB (ay an (Hb m) yr aK) 0 3 (cq yr 0) [.e 0 0,.y 3 1 0 n,.d 177 es,ah len,ah i] [az [.d 72 l,ah p],.b false 0 3 x]).D=((letI ai:=bB (es.getD i.toNat .m);letI ak:=ln l p m ai;letI aw:=x++ [aa.c .i64 ak.fst];af.c (decide (i<len)) (.c (decide (0<=i) &&decide (i<(↑es.length:Int))) (.c (!cW m ai==0 &&decide (l.length<=cg)) (.c (ak.snd !=0) (.g ((.c,[.y 3 0 0 0,ah ak.snd,.y 3 1 0 n],[.b false 0 3 [],.b false 0 3 x]))) (.c (decide (x.length+1<=4294967296)) (.g ((.b,[.e 0 0,.y 3 1 0 aw.length,.d 177 es,ah len,ah (i64.wrap (i+1))],[az [.d 72 l,ah p],.b false 0 3 aw]))) .d)) .d) .d) (.g ((.a 0,[.m,.m,.y 3 0 0 n],[.b false 0 3 x])))):af (aU×List aa×List aj)).D:=ae
def VQ(m:Nat):aq
 | [.u [.d 72 l,.c .i64 p],.d 177 es],[]=>.I (es.all (λv=> !(cW m (bB v)==0)) &&decide (es.length<=8) &&decide (l.length<=bP)) (.g (.a (.q [.d 3 (kU (ln l p m) es).1,.c .i64 (kU (ln l p m) es).2]) []))
 |_,_=>.d
def aBt(m:Nat):FuncId->aq:=aL [(212,VP),(213,VQ m),(214,VM),(215,VN)]
def aBu(m l p k op num nm ar):(aI (ay an (aBt m) RE aK) false f175 [VO l p,b9 k op num nm ar] []).D=((letI ai:=wS l p nm;letI ak:=kU (ln l p m) ar;letI aw:af aC:=al (.q [ah 0,ah ak.snd]) [];letI aS:af aC:=al (.q [ah 1,ah 0]) [];letI bx:af aC:=al (.q [ah 2,ah 0]) [];letI bX:=(↑ak.fst.length:Int);letI cI:=decide ((0:Int)<=0) &&decide (0<bX);letI fi:=ak.fst.getD (Int.toNat (0:Int)) .m;letI eA:=kT op [ah fi.I] tc false;letI jC:af aC:=.c cI (al (.q [ah eA.fst,ah eA.snd]) []) .d;letI iw:=kT op [ah fi.I,ah (ak.fst.getD (Int.toNat (1:Int)) .m).I] td false;letI gv:af aC:=.c cI (.c (decide ((0:Int)<=1) &&decide (1<bX)) (al (.q [ah iw.fst,ah iw.snd]) []) .d) .d;letI ny:af aC:=al (.q [ah 0,ah 12]) [];letI IS:af aC:=.c (ai.fst !=3) ny aS;af.c (!nm==[]) (.c (decide (l.length<=cg)) (.c (ai.snd !=0) (al (.q [ah 0,ah ai.snd]) []) (.c ((ar.all λv=> !cW m (bB v)==0) &&decide (ar.length<=8) &&decide (l.length<=cg)) (.c (ak.snd !=0) aw (.c (k==1) aS (.c (k==2) bx (.c (k==3) (al (.q [ah ai.fst,ah 0]) []) (.c (k==4) jC (.c (k==5) gv (.c (k==6) (.c cI (.c (fi.I !=1) ny IS) .d) IS))))))) .d)) .d) (.c ((ar.all λv=> !cW m (bB v)==0) &&decide (ar.length<=8) &&decide (l.length<=cg)) (.c (ak.snd !=0) aw (.c (k==1) aS (.c (k==2) bx (.c (k==3) (al (.q [ah 0,ah 0]) []) (.c (k==4) jC (.c (k==5) gv (.c (k==6) (.c cI (.c (fi.I !=1) ny ny) .d) ny))))))) .d)):af aC).D:=ae
def agz(f:aa->Int×Int):∀(l x y:List aa),cR (lS f) l x=.inr y->y.length=x.length+l.length
 | [],x,y,h=>by cases h;simp
 |e::r,x,y,h=>by
  rw[cR]at h;unfold lS at h;cases hc:(f (bB e)).2 !=0 with
  |true=>rw[hc]at h;cases h
  |false=>rw[hc]at h;have:=agz f r _ y h;simp at this⊢;omega
def agA(f:aa->Int×Int):∀(l x:List aa)(a:List aa×Int),cR (lS f) l x=.inl a->(a.2 !=0)=true
 | [],x,a,h=>by cases h
 |e::r,x,a,h=>by
  rw[cR]at h;unfold lS at h;cases hc:(f (bB e)).2 !=0 with
  |true=>rw[hc]at h;cases h;exact hc
  |false=>rw[hc]at h;exact agA f r _ a h
def VR{f:aa->Int×Int}(h:((kU f l).2 !=0)=false):(kU f l).1.length=l.length:=by
 unfold kU at h⊢;cases hg:cR (lS f) l []with
 |inl a=>rw[hg]at h;have:=agA f l [] a hg;have h':(a.2 !=0)=false:=h;rw[this]at h';cases h'
 |inr y=>have:=agz f l [] y hg;simpa using this
def Hc(a:List aa×Int):aU×List aa×List aj:=(.c,[.y 3 0 0 0,.c .i64 a.2,.y 3 1 0 a.1.length],[.b false 0 3 [],.b false 0 3 a.1])
def aBv(m:Nat)(l es x)(p:Int)(rU:es.all (λv=> !(cW m (bB v)==0))=true)(hl:l.length<=bP)(Ci:es.length<=8)(n:Nat)(hn:n<es.length)(hx:x.length=n):
  JU an (Hb m) yr aK 0 3 0 (λn x=> [.e 0 0,.y 3 1 0 x.length,.d 177 es,.c .i64 (es.length:Int),.c .i64 n]) (λ_ x=> [.a false [.d 72 l,.c .i64 p],.b false 0 3 x]) Hc (λn x=>x.length=n) n x (lS (ln l p m) x (es.getD n .m)):=by
 refine oF (agy m l es x p (es.length:Int) n x.length) (dB (mm hn) (dB (jk hn) (dB ?_ (jl (λ_=>ke rfl rfl) λ_=>dB (aD (show x.length+1<=4294967296 from ab)) (jI ?_ ?_)))))
 ·have h1:=ug rU hn;rw[au];exact⟨h1,aD hl⟩
 ·rw[mn hn (by have:bP=9223372036854775807:=rfl;omega)];rfl
 ·show(x++ [_]).length=n+1;simp;omega
def Ml(x:List aa):aU×List aa×List aj:=(.a 0,[.m,.m,.y 3 0 0 x.length],[.b false 0 3 x])
def aBw(m:Nat)(l es)(p:Int)(rU:es.all (λv=> !(cW m (bB v)==0))=true)(hl:l.length<=bP)(Ci:es.length<=8):
  bw an (Hb m) yr 0 3 [.e 0 0,.y 3 1 0 0,.d 177 es,.c .i64 (es.length:Int),.c .i64 0] [.a false [.d 72 l,.c .i64 p],.b false 0 3 []] (ml Hc Ml (cR (lS (ln l p m)) es [])):=by
 refine pz agu 0 ae ae cv (λn x=> [.e 0 0,.y 3 1 0 x.length,.d 177 es,.c .i64 (es.length:Int),.c .i64 n]) (λ_ x=> [.a false [.d 72 l,.c .i64 p],.b false 0 3 x]) (lS (ln l p m)) Hc Ml (λn x=>x.length=n) es [] rfl (λn x hn hx=>aBv m l es x p rU hl Ci n hn hx) ?_;intro x hx;have e:=agy m l es x p (es.length:Int) es.length x.length;rw[mP]at e;exact⟨e,rfl⟩
def qA(l:List aa)(p:Int)(M:Nat)(es:List aa):Bool×List aa×Int:=match cR (lS (ln l p M)) es []with | .inl a=>(true,a.1,a.2) | .inr x=>(false,x,0)
def VS(M:Nat):dk:=λm_ key vs os=>match vs,os with
 | [.e 0 0,.y 3 1 0 0,.d 177 es,.c .i64 len,.c .i64 0],[.a false [.d 72 l,.c .i64 p],.b false 0 3 []]=>
  .I (es.all (λv=> !(cW M (bB v)==0)) &&decide (es.length<=8) &&decide (l.length<=bP) &&decide (len=(es.length:Int)) &&Nat.beq m_ 0 &&Nat.beq key 3)
   (.c (qA l p M es).1 (.g (.c,[.y 3 0 0 0,.c .i64 (qA l p M es).2.2,.y 3 1 0 (qA l p M es).2.1.length],[.b false 0 3 [],.b false 0 3 (qA l p M es).2.1])) (.g (.a 0,[.m,.m,.y 3 0 0 (qA l p M es).2.1.length],[.b false 0 3 (qA l p M es).2.1])))
 |_,_=>.d
def aBx(M:Nat):cJ an (Hb M) yr (VS M):=by
 intro m_ key vs os r h;unfold VS at h;split at h
 ·rename_i es len l p;obtain⟨h1,h2⟩:=aO h;simp only[au,bC,aNx]at h1;obtain⟨⟨⟨⟨⟨rU,Ci⟩,hl⟩,rfl⟩,rfl⟩,rfl⟩:=h1;have h8:=aBw M l es p rU hl Ci;unfold qA at h2;cases hc:cR (lS (ln l p M)) es []<;>rw[hc]at h2 h8<;>cases h2<;>exact h8
 ·simp[af.D]at h
def aBy(l)(p:Int)(M:Nat)(es):kU (ln l p M) es=(bif (qA l p M es).1 then[]else(qA l p M es).2.1,(qA l p M es).2.2):=by unfold kU qA;cases cR (lS (ln l p M)) es []<;>rfl
def aBz(M l es p):(aI (ay an (Hb M) yr (VS M)) false f213 [VO l p,.d 177 es] []).D=((letI ai:=(↑es.length:Int);letI ak:=qA l p M es;af.c ((es.all λv=> !cW M (bB v)==0) &&decide (es.length<=8) &&decide (l.length<=cg) &&decide (ai=ai) &&Nat.beq 0 0 &&Nat.beq 3 3) (.c (ak.fst) (al (.q [.d 3 [],ah ak.snd.snd]) []) (al (.q [.d 3 ak.snd.fst,ah 0]) [])) .d):af aC).D:=ae
def aBA{M:Nat}(hO:aH 175 (DX M)):aH 213 (VQ M):=dN aW c_ (aA hO aQ) agu rfl (aBx M) λq r u h=>by
 unfold VQ at h;split at h
 ·rename_i l p es;obtain⟨h1,h2⟩:=aO h;refine(aBz M l es p).trans (bS (aZ ?_ ?_) h2)
  ·have h3:(es.all (λv=> !(cW M (bB v)==0)) &&decide (es.length<=8) &&decide (l.length<=9223372036854775807))=true:=h1;rw[h3,aD rfl];rfl
  ·rw[aBy];unfold qA;cases cR (lS (ln l p M)) es []<;>rfl
 ·cases h
def agB{k op num:Int}{ar}(h:(!(cW (m+1) (b9 k op num nm ar)==0))=true):(ar.all λv=> !(cW m (bB v)==0))=true/\ar.length<=2/\(ar.length:Int)=(uB k 4).I:=by
 have h1:cW (m+1) (b9 k op num nm ar)≠0:=λe=>by rw[e]at h;cases h
 rw[adP]at h1;split at h1
 ·rename_i hf;have hl:=Ld hf;refine⟨List.all_eq_true.2 λx hx=> ?_,hl.1,hl.2.2.2⟩;have h2:=Ls _ _ h1 x hx;rw[bB,Le];simpa using h2
 ·exact absurd rfl h1
def y0{n:Nat}(i:Nat)(h:i<n):(decide ((0:Int)<=(i:Int)) &&decide ((i:Int)<(n:Int)))=true:=by rw[aD (show(0:Int)<=(i:Int)from ab),aD (show(i:Int)<(n:Int)from ab)];rfl
def agC:∀M:Nat,aH 175 (DX M)
 |0=>λargs ao out h=>by
  unfold DX at h;split at h
  ·obtain⟨h1,_⟩:=aO h;cases h1
  ·simp[af.D]at h
 |m+1=>bI (aA aBr (aA (aBA (agC m)) (aA aBo (aA aBp aQ)))) aA5 λq r u h=>by
  unfold DX at h;split at h
  ·rename_i l p k op num nm ar;obtain⟨h1,h2⟩:=aO h;rw[au]at h1;obtain⟨ha,h8,hk⟩:=agB h1.1;have hl:decide (l.length<=nat_lit 9223372036854775807)=true:=h1.2;have t1:((ar.all λv=> !(cW m (bB v)==0)) &&decide (ar.length<=8) &&decide (l.length<=9223372036854775807))=true:=by rw[ha,aD (show ar.length<=8 from ab)];exact hl
   refine(aBu m l p k op num nm ar).trans (bS ?_ h2);show _=some (G' (ln l p (m+1) (b9 k op num nm ar)));refine bK (λ_=>aZ hl (bK (λ_=>rfl) λ_=> ?_)) λ_=> ?_
   ·refine aZ t1 (bK (λ_=>rfl) λh5=> ?_);have hn:=VR h5;refine bK (λ_=>rfl) λ_=>bK (λ_=>rfl) λ_=>bK (λ_=>rfl) λ_=>bK (λh6=>aZ ?_ rfl) λ_=>bK (λh6=>aZ ?_ (aZ ?_ rfl)) λ_=>bK (λh6=>aZ ?_ (bK (λ_=>rfl) λ_=>bK (λ_=>rfl) λ_=>rfl)) λ_=>bK (λ_=>rfl) λ_=>rfl
    ·obtain rfl:=eq_of_beq h6;have hk':(ar.length:Int)=1:=hk;exact y0 0 ab
    ·obtain rfl:=eq_of_beq h6;have hk':(ar.length:Int)=2:=hk;exact y0 0 ab
    ·obtain rfl:=eq_of_beq h6;have hk':(ar.length:Int)=2:=hk;exact y0 1 ab
    ·obtain rfl:=eq_of_beq h6;have hk':(ar.length:Int)=1:=hk;exact y0 0 ab
   ·refine aZ t1 (bK (λ_=>rfl) λh5=> ?_);have hn:=VR h5;refine bK (λ_=>rfl) λ_=>bK (λ_=>rfl) λ_=>bK (λ_=>rfl) λ_=>bK (λh6=>aZ ?_ rfl) λ_=>bK (λh6=>aZ ?_ (aZ ?_ rfl)) λ_=>bK (λh6=>aZ ?_ (bK (λ_=>rfl) λ_=>rfl)) λ_=>rfl
    ·obtain rfl:=eq_of_beq h6;have hk':(ar.length:Int)=1:=hk;exact y0 0 ab
    ·obtain rfl:=eq_of_beq h6;have hk':(ar.length:Int)=2:=hk;exact y0 0 ab
    ·obtain rfl:=eq_of_beq h6;have hk':(ar.length:Int)=2:=hk;exact y0 1 ab
    ·obtain rfl:=eq_of_beq h6;have hk':(ar.length:Int)=1:=hk;exact y0 0 ab
  ·cases h
def lT(l:List aa)(p:Int)(e:aa):Int×Int:=bif eY (lM e) !=0 then(0,eY (lM e))else ln l p 20 e
def VT:aq| [.d 72 l,.c .i64 p,.u [.c .i64 k,.c .i64 op,.c .i64 num,.h nm,.d 177 ar]],[]=>.I (decide (l.length<=bP)) (.g (.a (.q [.c .i64 (lT l p (b9 k op num nm ar)).1,.c .i64 (lT l p (b9 k op num nm ar)).2]) [])) |_,_=>.d
def aBB:FuncId->aq:=aL [(174,Gq),(175,DX 20)]
def aBC(l p k op num nm ar):(aI (ay an aBB RF aK) false f129 [.d 72 l,ah p,b9 k op num nm ar] []).D=((letI ai:=b9 k op num nm ar;af.c (eY (lM ai) !=0) (al (.q [ah 0,ah (eY (lM ai))]) []) (.c (!cW 20 ai==0 &&decide (l.length<=cg)) (al (.q [ah (ln l p 20 ai).fst,ah (ln l p 20 ai).snd]) []) .d)):af aC).D:=ae
def aBD:aH 129 VT:=bI (aA S5 (aA (agC 20) aQ)) aA6 λq r u h=>by
 unfold VT at h;split at h
 ·rename_i l p k op num nm ar;obtain⟨h1,h2⟩:=aO h;refine(aBC l p k op num nm ar).trans (bS ?_ h2);show _=some (G' (lT l p (b9 k op num nm ar)));refine bK (λ_=>rfl) λh3=>aZ ?_ rfl;have h4:lM (b9 k op num nm ar)=true:=by rw[GB]at h3;exact mQ h3
  have h5:cW 20 (b9 k op num nm ar)>0:=ff h4;rw[au];refine⟨?_,h1⟩;have:¬cW 20 (b9 k op num nm ar)=0:=ab;simpa using this
 ·cases h
end
end Go.Proofs.YtkcikbcpjdccmaaGreatDoor
