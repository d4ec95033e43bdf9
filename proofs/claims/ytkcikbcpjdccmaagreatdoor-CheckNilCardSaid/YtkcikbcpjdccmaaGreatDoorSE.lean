/- A part of the proof. -/
import Derived.Test.YtkcikbcpjdccmaaGreatDoorSD
set_option linter.all false
namespace Go.Proofs.YtkcikbcpjdccmaaGreatDoor
open Go Go.AH Go.RowKit Go.Proofs.Tryz
open Go.IntKind (i64)
set_option maxRecDepth 100000
noncomputable section
variable{b:Nat}{a:iY}{p:Int}{w:World}{nm:List UInt8}{ps:List aa}{rs:Int}{bo:List aa}{ct:Int}{l:List aa}{k:Nat}{ar:List aa}{w':World}{v:Value}{M:List aa}{f:FuncId}{args:List aa}{O:Nat->Prop}{bk:Array Value}{x:Value}{hb:Nat}{S:Nat->Prop}{w0:World}{act:Act}{y:Value}{bs:List Nat}{n:Nat}{vs fs:List aa}
def eR(l:List aa):Nat:=l.countP aa.b_
def js:List aa->Nat
 | []=>0
 |r::m=>eR r.U+js m
def ain:∀(h o:List aa),eR (du h o).1+(bif (du h o).2 then 1 else 0)<=eR h
 | [],[]=>bj _
 | [],_::_=>bj _
 |h::hs,[]=>bj _
 |h::hs,o::os=>by
  have ih:=ain hs os;have e:eR (h::hs)=eR hs+(bif h.b_ then 1 else 0):=by unfold eR;rw[BE];cases h.b_<;>rfl
  rw[du];cases hh:h.b_ with
  |true=>
   rw[hh]at e;have e:eR (h::hs)=eR hs+1:=e;cases ho:o.b_ with
   |true=>
    show eR (h::(du hs os).1)+(bif (du hs os).2 then 1 else 0)<=_;have e2:eR (h::(du hs os).1)=eR (du hs os).1+1:=by unfold eR;rw[BE,hh];rfl
    omega
   |false=>
    show eR (.p false::(du hs os).1)+1<=_;have e2:eR (.p false::(du hs os).1)=eR (du hs os).1:=by unfold eR;rw[BE];rfl
    cases hb:(du hs os).2<;>rw[hb]at ih<;>simp at ih<;>omega
  |false=>
   rw[hh]at e;have e:eR (h::hs)=eR hs+0:=e;show eR (h::(du hs os).1)+(bif (du hs os).2 then 1 else 0)<=_;have e2:eR (h::(du hs os).1)=eR (du hs os).1:=by unfold eR;rw[BE,hh];rfl
   omega
def aio:∀(m:List aa)(i:Nat)(r:aa),i<m.length->js (m.set i r)+eR (m.getD i .m).U=js m+eR r.U
 | [],i,r,h=>absurd h (BD i)
 |x::m,0,r,h=>by show eR r.U+js m+eR x.U=eR x.U+js m+eR r.U;omega
 |x::m,i+1,r,h=>by have ih:=aio m i r (ajo h);show eR x.U+js (m.set i r)+eR (m.getD i .m).U=eR x.U+js m+eR r.U;omega
def gn(l:List aa):Nat:=l.countP λv=> !v.b_
def aip:∀(l:List aa)(i:Nat),i<l.length->gn (l.set i (.p true))+(bif (l.getD i .m).b_ then 0 else 1)=gn l
 | [],i,h=>absurd h (BD i)
 |x::l,0,h=>by
  have e1:gn (.p true::l)=gn l:=by unfold gn;rw[BE];rfl
  have e2:gn (x::l)=gn l+(bif x.b_ then 0 else 1):=by unfold gn;rw[BE];cases x.b_<;>rfl
  show gn (.p true::l)+(bif x.b_ then 0 else 1)=gn (x::l);omega
 |x::l,i+1,h=>by
  have ih:=aip l i (ajo h);have e1:∀q:List aa,gn (x::q)=gn q+(bif x.b_ then 0 else 1):=λq=>by unfold gn;rw[BE];cases x.b_<;>rfl
  show gn (x::l.set i (.p true))+(bif (l.getD i .m).b_ then 0 else 1)=gn (x::l);rw[e1,e1];omega
def nc(a:iY):Nat:=js a.a+gn a.b+a.c.length
def w9(b:List aa)(q:aa)(a:iY):iY:=bif (du (a.a.getD q.I.toNat .m).U b).2 || !(a.b.getD q.I.toNat .m).b_ then⟨a.a.set q.I.toNat (.d 4 (du (a.a.getD q.I.toNat .m).U b).1),a.b.set q.I.toNat (.p true),a.c++ [q.I]⟩else⟨a.a.set q.I.toNat (.d 4 (du (a.a.getD q.I.toNat .m).U b).1),a.b,a.c⟩
def aFb(b q r)(a:iY):rN b (q::r) a=rN b r (w9 b q a):=rfl
def aiq{b q}(h1:q.I.toNat<a.a.length)(h2:q.I.toNat<a.b.length):nc (w9 b q a)<=nc a:=by
 have e1:=aio a.a q.I.toNat (.d 4 (du (a.a.getD q.I.toNat .m).U b).1) h1;have e1:js (a.a.set q.I.toNat (.d 4 (du (a.a.getD q.I.toNat .m).U b).1))+eR (a.a.getD q.I.toNat .m).U=js a.a+eR (du (a.a.getD q.I.toNat .m).U b).1:=e1;have e2:=ain (a.a.getD q.I.toNat .m).U b;have e3:=aip a.b q.I.toNat h2;unfold w9;cases hc:(du (a.a.getD q.I.toNat .m).U b).2 with
 |true=>rw[hc]at e2;have e2:eR (du (a.a.getD q.I.toNat .m).U b).1+1<=eR (a.a.getD q.I.toNat .m).U:=e2;show js (a.a.set q.I.toNat _)+gn (a.b.set q.I.toNat (.p true))+(a.c++ [q.I]).length<=js a.a+gn a.b+a.c.length;rw[eG];have:[q.I].length=1:=rfl;cases hs:(a.b.getD q.I.toNat .m).b_<;>rw[hs]at e3<;>simp at e3<;>omega
 |false=>
  rw[hc]at e2;have e2:eR (du (a.a.getD q.I.toNat .m).U b).1<=eR (a.a.getD q.I.toNat .m).U:=e2;cases hs:(a.b.getD q.I.toNat .m).b_ with
  |true=>show js (a.a.set q.I.toNat _)+gn a.b+a.c.length<=js a.a+gn a.b+a.c.length;omega
  |false=>rw[hs]at e3;have e3:gn (a.b.set q.I.toNat (.p true))+1=gn a.b:=e3;show js (a.a.set q.I.toNat _)+gn (a.b.set q.I.toNat (.p true))+(a.c++ [q.I]).length<=js a.a+gn a.b+a.c.length;rw[eG];have:[q.I].length=1:=rfl;omega
def aFc(b q)(a:iY):(w9 b q a).a.length=a.a.length/\(w9 b q a).b.length=a.b.length:=by unfold w9;cases(du (a.a.getD q.I.toNat .m).U b).2 || !(a.b.getD q.I.toNat .m).b_<;>simp
def air{b}:∀(l:List aa)(a:iY),(∀q∈l,q.I.toNat<a.a.length/\q.I.toNat<a.b.length)->nc (rN b l a)<=nc a
 | [],a,h=>bj _
 |q::r,a,h=>by rw[aFb];obtain⟨h1,h2⟩:=h q aB;obtain⟨l1,l2⟩:=aFc b q a;exact eb (air r _ λq' hq'=>by rw[l1,l2];exact h q' (by simp[hq'])) (aiq h1 h2)
def aFd(l):eR l<=l.length:=ajp
def aFe(vs)(ct:Int):js (qG vs ct)<=(ct+1).toNat*vs.length:=by
 unfold qG;have:∀(l:List Nat),js (l.map (MH vs))<=l.length*vs.length:=by
  intro l;induction l with
  |nil=>exact ik _
  |cons i l ih=>
   have h1:=aFd (pK vs i);have h2:(pK vs i).length=vs.length:=by unfold pK;simp
   show eR (pK vs i)+js (l.map (MH vs))<=(l.length+1)*vs.length;rw[lu];omega
 have:=this (List.range (ct+1).toNat);rwa[List.length_range]at this
def HB(f:aa)(vs bo:List aa)(ct p:Int)(w:List Int)(a:iY):iY:=rN (Hz f vs bo p (a.a.getD p.toNat .m).U) (ti f bo ct p).1 ⟨a.a,a.b,w⟩
def aFf(f vs bo)(ct:Int)(n:Nat)(a:iY){w:List Int}(h:a.c=p::w):rO f vs bo ct (n+1) a=rO f vs bo ct n (HB f vs bo ct p w a):=by rw[rO,h];rfl
def aFg(f vs bo)(ct:Int)(n:Nat)(a:iY)(h:a.c=[]):rO f vs bo ct n a=a:=by
 cases n with
 |zero=>rfl
 |succ n=>rw[rO,h]
def ais(hp:bF [aG nm ps rs bo ct]=true)(h0:0<=p)(h1:p<=ct):∀v∈(ti (aG nm ps rs bo ct) bo ct p).1,pJ ct v:=by
 intro v hv;unfold ti at hv;cases h2:za (aG nm ps rs bo ct) ct p !=0 with
 |true=>rw[h2]at hv;cases hv
 |false=>
  rw[h2]at hv;have hv:v∈(bif (fg (aG nm ps rs bo ct) bo p).2 !=0 then(([],0):List aa×Int)else(qE (n_ (aG nm ps rs bo ct) bo ct ((fg (aG nm ps rs bo ct) bo p).1.D 0).I ((fg (aG nm ps rs bo ct) bo p).1.D 1).I),0)).1:=hv;unfold fg at hv;rw[hp]at hv;cases he:(dC p (ba 20 [] bo)).isEmpty with
  |true=>rw[he]at hv;cases hv
  |false=>
   rw[he]at hv;have hv:v∈qE (n_ (aG nm ps rs bo ct) bo ct (dp (lq bo p)) (bZ (lq bo p))):=hv;obtain⟨hn,hl,hs,hc,_⟩:=n9 (mv hp);have hm:=A8 p _ he;obtain⟨f,r,de⟩:=pH 20 [] bo _ hm;have:=y8 _ 0 hs _ hm;have hh:qD (dC p (ba 20 [] bo))=bZ (lq bo p):=by unfold lq;rw[de];rfl
   exact(ahC rfl hp ab ab).1 v hv
def aFh(hp:bF [aG nm ps rs bo ct]=true)(h0:0<=p)(h1:p<=ct):(ti (aG nm ps rs bo ct) bo ct p).1.length<=2:=by
 unfold ti;cases h2:za (aG nm ps rs bo ct) ct p !=0 with
 |true=>exact ik _
 |false=>
  show(bif (fg (aG nm ps rs bo ct) bo p).2 !=0 then(([],0):List aa×Int)else(qE (n_ (aG nm ps rs bo ct) bo ct ((fg (aG nm ps rs bo ct) bo p).1.D 0).I ((fg (aG nm ps rs bo ct) bo p).1.D 1).I),0)).1.length<=2;cases(fg (aG nm ps rs bo ct) bo p).2 !=0 with
  |true=>exact ik _
  |false=>exact eb (ahv _) (by
    show(n_ (aG nm ps rs bo ct) bo ct ((fg (aG nm ps rs bo ct) bo p).1.D 0).I ((fg (aG nm ps rs bo ct) bo p).1.D 1).I).length<=2;unfold n_;cases((fg (aG nm ps rs bo ct) bo p).1.D 0).I==8<;>cases((fg (aG nm ps rs bo ct) bo p).1.D 0).I==9<;>cases((fg (aG nm ps rs bo ct) bo p).1.D 0).I==10<;>simp)
def W9{p:aa->Bool}:∀(l:List aa)(n i:Nat),bc p l n=some i->n<=i/\i<n+l.length
 | [],n,i,h=>by cases h
 |x::l,n,i,h=>by
  unfold bc at h;split at h
  ·cases h;simp
  ·have:=W9 l (n+1) i h;rw[eM];omega
def aFi{k:Int}(h:(na l k nm ar).2≠0):0<=(na l k nm ar).1/\(na l k nm ar).1<l.length:=by
 unfold na at h⊢;cases hc:bc (dz nm) l 0 with
 |none=>rw[hc]at h;exact absurd rfl h
 |some i=>
  have:=W9 l 0 i hc;rw[hc]at h;cases he:MG k nm ar !=0 with
  |false=>rw[he]at h;exact absurd rfl h
  |true=>show 0<=((i:Nat):Int)/\((i:Nat):Int)<l.length;omega
def aFj(hp:bF [aG nm ps rs bo ct]=true)(h:(fg (aG nm ps rs bo ct) bo p).2=0):0<=dp (fg (aG nm ps rs bo ct) bo p).1/\dp (fg (aG nm ps rs bo ct) bo p).1<=10:=by
 unfold fg at h⊢;rw[hp]at h⊢;cases he:(dC p (ba 20 [] bo)).isEmpty with
 |true=>rw[he]at h;cases h
 |false=>
  show 0<=dp (lq bo p)/\dp (lq bo p)<=10;have hf:=mv hp;unfold kN at hf;rw[au,au]at hf;have h1:fm nm ps rs bo=true:=hf.1.1;unfold fm at h1;rw[au]at h1;have hm:=A8 p _ he;have hd:=MF 20 bo [] 0 ab ab h1.2 _ hm;obtain⟨f,r,de⟩:=pH 20 [] bo _ hm;have e:fK (dC p (ba 20 [] bo))=lq bo p:=by unfold lq;rw[de];rfl
  rw[e]at hd;unfold lj qv at hd;simp only[au,kr,BB]at hd;have a:=hd.1.1.1.1.1.1.1.1.1;omega
structure nf(w:World)(v:Value)(b k:Nat)(l:List aa):Prop where
 d:l.length=k
 f:Bi l
 e:(k=0/\∃a c,v=.slice a 0 c)\/(k≠0/\∃(off cap:Nat)(arr:Array Value),v=.slice (some ⟨b,off,none⟩) k cap/\w.heap[b]? =some (.cells arr 4 (0,0))/\off+k<=arr.size/\k<=cap/\∀(i:Nat)(u:aa),l[i]? =some u->arr[off+i]? =some (.bool u.b_))
def nf.D(h:nf w v b k l)(hs:k≠0->w'.heap[b]? =w.heap[b]?):nf w' v b k l:=by
 refine⟨h.d,h.f,?_⟩;rcases h.e with h1 | ⟨h1,off,cap,arr,h2,h3,h4⟩
 ·exact .inl h1
 ·exact .inr ⟨h1,off,cap,arr,h2,(hs h1).trans h3,h4⟩
def nf.I(h:nf w v b k l)(hk:k≠0):b<w.heap.size:=by
 rcases h.e with h1 | ⟨_,_,_,_,_,h3,_⟩
 ·exact absurd h1.1 hk
 ·exact mY h3
def ait{w O}{b:Nat}:∀(l:List aa)(o:Nat),Bi l->(∀(i:Nat)(u:aa),l[i]? =some u->w.cell? ⟨b,o+i,none⟩=some (.bool u.b_))->bN aJ w O l 4 b o
 | [],_,_,_=>trivial
 |v::l,o,hb,hc=>by
  have hv:v=.p v.b_:=hb v aB;refine⟨?_,⟨[.bool v.b_],rfl,uO (hc 0 v rfl),?_⟩,ait l (o+1) (λu hu=>hb u (by simp[hu])) λi u hi=> ?_⟩
  ·rw[hv];exact⟨rfl,rfl⟩
  ·rw[hv];rfl
  ·have:=hc (i+1) u hi;rwa[show o+(i+1)=o+1+i from ab]at this
def W_{w O}{b:Nat}:∀(l:List aa)(o:Nat),bN aJ w O l 4 b o->∀(i:Nat)(u:aa),l[i]? =some u->w.cell? ⟨b,o+i,none⟩=some (.bool u.b_)
 |v::l,o,⟨⟨_,h1⟩,⟨cs,h2,h3,h4⟩,_⟩,0,u,hu=>by
  cases hu;have h1:aa.p v.b_=v:=h1;obtain⟨c,rfl⟩:∃c,cs=[c]:=by
   match cs,h2 with
   | [c],_=>exact⟨c,rfl⟩
  rw[<-h1]at h4;have h4:c=.bool v.b_:=h4;rw[<-h4];exact h3 0 c rfl
 |v::l,o,⟨_,_,h5⟩,i+1,u,hu=>by have:=W_ l (o+1) h5 i u hu;rwa[show o+1+i=o+(i+1)from ab]at this
def aiu{w O}{b:Nat}:∀(l:List aa)(o:Nat),bN aJ w O l 3 b o->∀(i:Nat)(u:aa),l[i]? =some u->w.cell? ⟨b,o+i,none⟩=some (.int .i64 u.I)
 |v::l,o,⟨⟨_,h1⟩,⟨cs,h2,h3,h4⟩,_⟩,0,u,hu=>by
  cases hu;have h1:aa.c .i64 v.I=v:=h1;obtain⟨c,rfl⟩:∃c,cs=[c]:=by
   match cs,h2 with
   | [c],_=>exact⟨c,rfl⟩
  rw[<-h1]at h4;have h4:c=.int .i64 v.I:=h4;rw[<-h4];exact h3 0 c rfl
 |v::l,o,⟨_,_,h5⟩,i+1,u,hu=>by have:=aiu l (o+1) h5 i u hu;rwa[show o+1+i=o+(i+1)from ab]at this
def aiv{i:Nat}{u}(h:l[i]? =some u):(lU l).toArray[i]? =some (.bool u.b_):=by rw[tE];unfold lU;rw[fX,h];rfl
def aiw:∀(h o:List aa),Bi h->Bi (du h o).1
 | [],[],hb=>hb
 | [],_::_,hb=>hb
 |h::hs,[],hb=>hb
 |h::hs,o::os,hb=>by
  have ih:=aiw hs os λu hu=>hb u (by simp[hu]);rw[du];cases h.b_ && !o.b_ with
  |true=>
   intro u hu;rcases List.mem_cons.1 hu with rfl |hu
   ·rfl
   ·exact ih u hu
  |false=>
   intro u hu;rcases List.mem_cons.1 hu with rfl |hu
   ·exact hb _ aB
   ·exact ih u hu
structure iH(wB:World)(k N:Nat)(y:Value)(b0:Nat)(bs:List Nat)(sb:Nat)(a:iY)(x:Value)(wb:Nat)(w:World):Prop where
 f:tp w y b0 bs k a.a
 g:a.a.length=N
 n:w.heap[sb]? =some (.cells (lU a.b).toArray 4 (0,0))
 m:a.b.length=N
 u:Bi a.b
 o:tq w x wb a.c
 s:∀p∈a.c,0<=p/\p<(N:Int)
 t:(wb::sb::b0::bs).Nodup
 j:∀b∈wb::sb::b0::bs,wB.heap.size<=b
 d:cw eL wB w
section
variable{wB w w':World}{k N:Nat}{y x:Value}{b0 sb wb:Nat}{bs:List Nat}{a:iY}
def tp.I(h:tp w y b0 bs k M):∀b∈b0::bs,b<w.heap.size:=by
 intro b hb;rcases List.mem_cons.1 hb with rfl |hb
 ·exact mY h.a
 ·obtain⟨i,hi,rfl⟩:=List.mem_iff_getElem.1 hb;have jv:i<M.length:=by rw[<-h.c];exact hi
  obtain⟨l,_,hr⟩:=h.d i bs[i] M[i] (cV hi) (cV jv);exact mY hr.a
def iH.D(h:iH wB k N y b0 bs sb a x wb w):∀b∈wb::sb::b0::bs,b<w.heap.size:=by
 intro b hb;rcases List.mem_cons.1 hb with rfl |hb
 ·exact h.o.I
 rcases List.mem_cons.1 hb with rfl |hb
 ·exact mY h.n
 ·exact h.f.I b hb
def qH.D(h:qH w b k l)(hb:w'.heap[b]? =w.heap[b]?):qH w' b k l:=⟨hb.trans h.a,h.c,h.d⟩
def tp.D(h:tp w y b0 bs k M)(hs:∀b∈b0::bs,w'.heap[b]? =w.heap[b]?):tp w' y b0 bs k M:=by refine⟨h.f,h.c,h.g,(hs b0 aB).trans h.a,λi b r hi hr=> ?_⟩;obtain⟨l,e,hl⟩:=h.d i b r hi hr;exact⟨l,e,hl.D (hs b (by simp[eg hi]))⟩
def iH.I(h:iH wB k N y b0 bs sb a x wb w)(hc:cw eL w w'):iH wB k N y b0 bs sb a x wb w':=by have hs:∀b∈wb::sb::b0::bs,w'.heap[b]? =w.heap[b]? :=λb hb=>hc.a b (h.D b hb) λh=>h;exact⟨h.f.D λb hb=>hs b (by simp only[jc]at hb⊢;rcases hb with h |h<;>simp[h]),h.g,(hs sb aB).trans h.n,h.m,h.u,h.o.D (hs wb aB),h.s,h.t,h.j,h.d.D hc⟩
def iH.V(h:iH wB k N y b0 bs sb a x wb w){q:Nat}(hq:q<N)(hp:yk w sb q (.bool true) w'):iH wB k N y b0 bs sb ⟨a.a,a.b.set q (.p true),a.c⟩ x wb w':=by
 have hn:=h.t;simp only[tB,jc,not_or]at hn;obtain⟨⟨n1,n2,n3⟩,⟨n4,n5⟩,n6,n7⟩:=hn;refine⟨h.f.D λb hb=>hp.f b λe=> ?_,h.g,?_,by rw[qN];exact h.m,λv hv=> ?_,h.o.D (hp.f wb n1),h.s,h.t,h.j,h.d.U (sY hp) (h.j sb aB)⟩
 ·subst e;rcases List.mem_cons.1 hb with h |h
  ·exact n4 h
  ·exact n5 h
 ·rw[hp.d h.n];have:(lU a.b).set q (.bool true)=lU (a.b.set q (.p true)):=by unfold lU;rw[List.map_set];rfl
  rw[<-this]
 ·rcases Bx hv with hv |rfl
  ·exact h.u v hv
  ·rfl
def iH.aFk(h:iH wB k N y b0 bs sb a x wb w){q:Nat}(hb:bs[q]? =some b)(hc:cw (· =b) w w')(hr:qH w' b k l):iH wB k N y b0 bs sb ⟨a.a.set q (.d 4 l),a.b,a.c⟩ x wb w':=by
 have hn:=h.t;simp only[tB,jc,not_or]at hn;obtain⟨⟨n1,n2,n3⟩,⟨n4,n5⟩,n6,n7⟩:=hn;have hm:=eg hb;have same:∀c∈wb::sb::b0::bs,c≠b->w'.heap[c]? =w.heap[c]? :=λc fw dw=>hc.a c (h.D c fw) dw;refine⟨⟨by rw[qN];exact h.f.f,by rw[qN];exact h.f.c,h.f.g,(same b0 aB λe=>n6 (e▸hm)).trans h.f.a,λi c r hi hr'=> ?_⟩,by rw[qN];exact h.g,(same sb aB λe=>n5 (e▸hm)).trans h.n,h.m,h.u,h.o.D (same wb aB λe=>n3 (e▸hm)),h.s,h.t,h.j,h.d.U hc (h.j b (by simp[hm]))⟩;by_cases e:i=q
 ·subst e;rw[hb]at hi;cases hi;rw[By]at hr';simp only[if_pos]at hr';split at hr'
  ·cases hr';exact⟨l,rfl,hr⟩
  ·cases hr'
 ·rw[vf (lY e)]at hr';obtain⟨l',e1,e2⟩:=h.f.d i c r hi hr';refine⟨l',e1,e2.D (same c (by simp[eg hi]) λe3=>e ?_)⟩;subst e3;obtain⟨h1,h2⟩:=List.getElem?_eq_some_iff.1 hi;obtain⟨h3,h4⟩:=List.getElem?_eq_some_iff.1 hb;rcases XZ i q with h5 |h5 |h5
  ·exact absurd (h2.trans h4.symm) (List.pairwise_iff_getElem.1 n7 i q h1 h3 h5)
  ·exact h5
  ·exact absurd (h4.trans h2.symm) (List.pairwise_iff_getElem.1 n7 q i h3 h1 h5)
def iH.U(h:iH wB k N y b0 bs sb a x wb w){l:List Int}{x'}{wb':Nat}(hc:cw (· =wb) w w')(hw:tq w' x' wb' l)(hb:wb'=wb\/w.heap.size<=wb'/\wb'<w'.heap.size)(hl:∀p∈l,0<=p/\p<(N:Int)):iH wB k N y b0 bs sb ⟨a.a,a.b,l⟩ x' wb' w':=by
 have hn:=h.t;obtain⟨n1,n2⟩:=List.nodup_cons.1 hn;have same:∀c∈sb::b0::bs,w'.heap[c]? =w.heap[c]? :=λc fw=>hc.a c (h.D c (oX _ fw)) λe=>n1 (e▸fw);have sc:=h.j wb aB;have bE:=h.d.d;refine⟨h.f.D λb hb=>same b (by simp only[jc]at hb⊢;rcases hb with h |h<;>simp[h]),h.g,(same sb aB).trans h.n,h.m,h.u,hw,hl,List.nodup_cons.2 ⟨λhm=> ?_,n2⟩,λb hm=> ?_,h.d.U hc sc⟩
 ·rcases hb with rfl |hb
  ·exact n1 hm
  ·have:=h.D wb' (oX _ hm);omega
 ·rcases List.mem_cons.1 hm with rfl |hm
  ·rcases hb with rfl |hb
   ·exact sc
   ·omega
  ·exact h.j b (oX _ hm)
end
section
variable{P:Program}{Tt:TypeId->bz}{G:Nat->aa}{w w':World}{kn:Nat}
def aFl{M:aq}(hH:ck Tt G P f M)(hE:∀args w,(callFunc f args).run P w=.ok (.enter f args) w){ao}{out:aC}(he:(M args ao).D=some out)(iL:∀o∈ao,o.V=0){β:Nat->AH.bd}(Zm:cY Tt G O (Go.AH.a_ ao) β w)(hr:aF Tt w (Go.AH.aY O (Go.AH.a_ ao) β) args (bW Tt (Go.AH.a_ ao) β) bk.toList){R:Ending->World->Prop}
  (hR:∀e w',Go.AH.kE Tt G O ao β w out e w'->R e w'):CallsIn Fence.wide kn P f bk w R:=by
 have h:=hH args ao out he iL O β w bk Zm hr;rcases h with⟨_,h⟩ | ⟨x,w',h1,h2⟩
 ·exact callsIn_wide.2 (h.mono hR)
 ·rw[hE]at h1;cases h1
end
section
variable{wB w w':World}{O S:Nat->Prop}{kn:Nat}
def Ee(hB:gj aJ cO O wB)(hc:cw eL wB w)(hS:∀c,S c->O c\/wB.heap.size<=c)(tK:∀c,S c->c<w.heap.size):gj aJ cO S w:=hB.D (rC hc hS) tK
def Ef{v}(hc:cw eL wB w)(hS:∀c,S c->O c\/wB.heap.size<=c)(h:ax aJ wB O v bh x):ax aJ w S v bh x:=ax.D (rC hc hS) _ _ _ _ (λ_ _ h=>h) h
def MJ{M:aq}(hH:aH f M)(hE:∀args w,(callFunc f args).run prog w=.ok (.enter f args) w){v}(he:(M args []).D=some (.a v []))(hn:v.gx=true)(hg:gj aJ cO S w)(hr:aF aJ w S args bh bk.toList):
  CallsIn Fence.wide kn prog f bk w λe w'=>∃y,e=.returned y/\cw eL w w'/\ax aJ w' S v bh y:=by
 refine C2 hH hE he hg hr (λ_=>default) λe w' he=> ?_;cases e with
 |returned y=>obtain⟨v',ao,β',h1,gd⟩:=he;cases h1;refine⟨y,rfl,DN gd.a,?_⟩;have h2:=q9 gd.b hn;rw[Ah]at h2;exact h2
 |panicked c=>obtain⟨v,ao,β',x,h1,_⟩:=he;cases h1
 |outgrown=>exact he.elim
end
def Xa:∀args w,(callFunc 135 args).run prog w=.ok (.enter 135 args) w:=by obtain⟨c,hc⟩:=Option.isSome_iff_exists.1 (show f135.body.isSome=true from ae);exact qh func135 ae hc
def aix:∀args w,(callFunc 139 args).run prog w=.ok (.enter 139 args) w:=by obtain⟨c,hc⟩:=Option.isSome_iff_exists.1 (show f139.body.isSome=true from ae);exact qh func139 ae hc
def aiy:∀args w,(callFunc 136 args).run prog w=.ok (.enter 136 args) w:=by obtain⟨c,hc⟩:=Option.isSome_iff_exists.1 (show f136.body.isSome=true from ae);exact qh func136 ae hc
def aiz:∀args w,(callFunc 137 args).run prog w=.ok (.enter 137 args) w:=by obtain⟨c,hc⟩:=Option.isSome_iff_exists.1 (show f137.body.isSome=true from ae);exact qh func137 ae hc
def aiA:∀args w,(callFunc 138 args).run prog w=.ok (.enter 138 args) w:=by obtain⟨c,hc⟩:=Option.isSome_iff_exists.1 (show f138.body.isSome=true from ae);exact qh func138 ae hc
def aiB:∀args w,(callFunc 27 args).run prog w=.ok (.enter 27 args) w:=by obtain⟨c,hc⟩:=Option.isSome_iff_exists.1 (show f27.body.isSome=true from ae);exact qh func27 ae hc
def aFm:∀args w,(callFunc 134 args).run prog w=.ok (.enter 134 args) w:=by obtain⟨c,hc⟩:=Option.isSome_iff_exists.1 (show f134.body.isSome=true from ae);exact qh func134 ae hc
section
variable{w w':World}{S:Nat->Prop}{kn k bq:Nat}{l:List aa}
def aiC(hr:qH w bq k l)(hS:¬S bq):ax aJ w S (.d 4 l) bh (.slice (some ⟨bq,0,none⟩) k k):=
 ⟨_,k,by rw[hr.c],by rw[hr.c];exact bj _,.inr ⟨bq,0,rfl,mY hr.a,hS,ah4 (T':=()) hr⟩⟩
def aFn(hb:nf w v b k l)(hS:k≠0->¬S b):ax aJ w S (.d 4 l) bh v:=by
 rcases hb.e with⟨h1,a,c,h2⟩ | ⟨h1,off,cap,arr,h2,h3,h4,h5,h6⟩
 ·have hl:l=[]:=List.length_eq_zero_iff.1 (hb.d.trans h1);subst hl;exact⟨a,c,h2,ik _,.inl rfl⟩
 ·refine⟨_,cap,by rw[hb.d];exact h2,by rw[hb.d];exact h5,.inr ⟨b,off,rfl,mY h3,hS h1,ait l off hb.f λi u hi=> ?_⟩⟩;simp only[World.cell?,h3];exact h6 i u hi
def aFo(hg:gj aJ cO S w)(hr:qH w bq k l)(hS:¬S bq)(hk:k<=1000):
  CallsIn Fence.wide kn prog 135 #[.slice (some ⟨bq,0,none⟩) k k] w λe w'=>∃y hb,e=.returned y/\cw eL w w'/\nf w' y hb k l/\(k≠0->w.heap.size<=hb):=by
 have eo:=aiC hr hS;have pU:=hr.c;have BR:=hr.d;cases l with
 |nil=>
  refine C2 Sm Xa (args:=[.d 4 []]) (out:=.a (.d 4 []) []) rfl hg ⟨_,[],rfl,eo,rfl⟩ (λ_=>default) λe w' he=> ?_;cases e with
  |returned y=>obtain⟨v,ao,β',h1,gd⟩:=he;cases h1;obtain⟨a,c,h2,_,_⟩:=gd.b;have mJ:k=0:=pU.symm;exact⟨y,0,rfl,DN gd.a,⟨pU,BR,.inl ⟨mJ,a,c,h2⟩⟩,λh=>absurd mJ h⟩
  |panicked c=>obtain⟨v,ao,β',x,h1,_⟩:=he;cases h1
  |outgrown=>exact he.elim
 |cons v l=>
  refine C2 Sm Xa (args:=[.d 4 (v::l)]) (out:=.a (.y 4 0 0 (v::l).length) [.b false 0 4 (v::l)]) ?_ hg ⟨_,[],rfl,eo,rfl⟩ (λ_=>default) λe w' he=> ?_
  ·exact aZ (aD (show(v::l).length<=4294967296 from ab)) rfl
  cases e with
  |returned y=>
   obtain⟨u,ao,β',h1,gd⟩:=he;cases h1;obtain⟨ro,g',t',vs',h2,_,_,h3⟩:=gd.b;cases h2;obtain⟨_,_,rfl⟩:=h3 rfl;obtain⟨_,h4 | ⟨h4,cur,h5,h6,h7,h8,h9⟩⟩:=gd.c.c 0
   ·exact absurd h4.2.1 aB
   ·have hm:cQ (Go.AH.a_ [.b false 0 4 (v::l)]) β' 0:=⟨rfl,h4⟩
    have h8:cur.size=(β' 0).c+(β' 0).b*1:=h8;refine⟨_,(β' 0).a,rfl,DN gd.a,⟨pU,BR,.inr ⟨by simp at pU;omega,(β' 0).c,(β' 0).b,cur,by simp[AH.bd.D,h4,<-pU],h5,ab,ab,λi u hi=> ?_⟩⟩,λ_=> ?_⟩
    ·have:=W_ _ _ h9 i u hi;simp only[World.cell?,h5]at this;simpa using this
    ·rcases gd.a.r 0 hm with⟨i,mi,_⟩ |h
     ·have:=mi.1;rw[show Go.AH.a_ [] i=.c by cases i<;>rfl]at this;cases this
     ·exact h
  |panicked c=>obtain⟨v,ao,β',x,h1,_⟩:=he;cases h1
  |outgrown=>exact he.elim
def aFp{o bv}(hg:gj aJ cO (λb=>S b\/b=bq) w)(hr:qH w bq k l)(hS:¬S bq)(ho:nf w bv hb k o)(bL:k≠0->hb≠bq/\¬S hb)(hk:k<=1000):
  CallsIn Fence.wide kn prog 139 #[.slice (some ⟨bq,0,none⟩) k k,bv] w λe w'=>e=.returned (.bool (du l o).2)/\cw (· =bq) w w'/\qH w' bq k (du l o).1:=by
 have pU:=hr.c;have dT:=ho.d;obtain⟨β,hβ⟩:∃β:Nat->AH.bd,β=λ_=>⟨bq,k,false,0⟩:=⟨_,rfl⟩
 have akU:∀i,cQ (Go.AH.a_ [.b false 0 4 l]) β i->i=0:=λi mi=>by
  cases i with
  |zero=>rfl
  |succ i=>have:=mi.1;rw[show Go.AH.a_ [.b false 0 4 l] (i+1)=.c by cases i<;>rfl]at this;cases this
 have own:∀b,Go.AH.aY S (Go.AH.a_ [.b false 0 4 l]) β b->S b\/b=bq:=λb h=>by
  rcases h with h | ⟨i,_,h⟩
  ·exact .inl h
  ·right;rw[<-h,hβ]
 have Zm:cY aJ cO S (Go.AH.a_ [.b false 0 4 l]) β w:=by
  refine⟨λi=> ?_,λi ha hr=> ?_,λi j gH mi mj=> ?_,λb h=>hg.a b (.inl h),λi mi=>by rw[hβ];exact hS,λg=> ?_⟩
  ·cases i with
   |zero=>refine⟨rfl,.inr ⟨by rw[hβ],_,by rw[hβ];exact hr.a,by rw[hβ,pU];exact bj _,by rw[hβ];exact eb hk (by unfold maxLen;omega),?_,by rw[hβ];exact ah4 (T':=()) hr⟩⟩;rw[hβ];show(lU l).toArray.size=0+k*1;unfold lU;simp[pU]
   |succ i=>rw[show Go.AH.a_ [.b false 0 4 l] (i+1)=.c by cases i<;>rfl];trivial
  ·cases i with
   |zero=>cases hr
   |succ i=>rw[show Go.AH.a_ [.b false 0 4 l] (i+1)=.c by cases i<;>rfl]at ha;cases ha
  ·exact absurd ((akU i mi).trans (akU j mj).symm) gH
  ·exact dU.D (cz.D own) (hg.c g)
 refine aFl aD9 aix (args:=[.y 4 0 0 k,.d 4 o]) (ao:=[.b false 0 4 l]) (out:=.a (.p (du l o).2) [.b false 0 4 (du l o).1]) ?_ (by simp;rfl) Zm ?_ λe w' he=> ?_
 ·exact aZ (by rw[pU,dT,gq,aD hk];rfl) rfl
 ·refine⟨_,_,rfl,⟨false,0,4,l,rfl,bj _,?_,λ_=>⟨rfl,pU.symm,by rw[hβ];rfl⟩⟩,_,[],rfl,?_,rfl⟩
  ·exact⟨_,_,rfl,bj _,λ_=>⟨_,_,rfl⟩⟩
  ·refine ax.D (cz.D (O:=λb=>S b\/b=bq) own) _ _ _ _ (λ_ _ h=>h.elim) (aFn ho λh hh=> ?_);rcases hh with hh |hh
   ·exact(bL h).2 hh
   ·exact(bL h).1 hh
 cases e with
 |returned y=>
  obtain⟨u,ao,β',h1,gd⟩:=he;cases h1;have eo:=gd.b;have eo:y=.bool (du l o).2:=eo;subst eo;obtain⟨_,g',t',vs',h2,_,h3⟩:=gd.a.u 0 aB;cases h2;obtain⟨_,_,hl'⟩:=h3 rfl;obtain⟨_,h4 | ⟨h4,cur,h5,h6,h7,h8,h9⟩⟩:=gd.c.c 0
  ·rw[hl',hβ]at h4;exact absurd h4.1 aB
  refine⟨rfl,⟨gd.a.f,gd.a.n,gd.a.p,gd.a.c,λc hc bL=>gd.a.d c hc λi mi=> ?_⟩,?_,by rw[D_];exact pU,aiw l o hr.d⟩
  ·rw[hβ];exact λh=>bL h.symm
  ·rw[hl',hβ]at h5 h8 h9;have h8:cur.size=0+k*1:=h8;have h5:w'.heap[bq]? =some (.cells cur 4 (0,0)):=h5;rw[h5];have:cur=(lU (du l o).1).toArray:=by
    apply Array.ext_getElem?;intro i;rcases od i k with h |h
    ·have hi:i<(du l o).1.length:=by rw[D_,pU];exact h
     rw[aiv (cV hi)];have:=W_ _ _ h9 i _ (cV hi);simp only[World.cell?]at this;rw[show(0:Nat)+i=i from ab,h5]at this;simpa using this
    ·rw[EC ab,EC (by
      unfold lU;simp;rw[D_,pU];exact h)]
   rw[this]
 |panicked c=>obtain⟨v,ao,β',x,h1,_⟩:=he;cases h1
 |outgrown=>exact he.elim
end
noncomputable def aT(k:Nat):Array Oper:=(rp k (f99.body.getD .skip)).getD #[]
def aFq:f99.body=some (.seq (.region 0 (aT 0) false) (.seq (.seq (.region 1 (aT 1) false) (.cond (.tmp 22) (.seq (.region 2 (aT 2) false) .ret) .skip)) (.seq (.region 3 (aT 3) false) (.seq (.region 4 (aT 4) false) (.seq (.region 5 (aT 5) false) (.seq (.seq (.region 6 (aT 6) false) (.block 0 (.loop (.seq (.seq (.region 7 (aT 7) false) (.cond (.tmp 35) .skip (.exit 0))) (.block 1 (.seq (.region 8 (aT 8) false) (.seq (.region 9 (aT 9) false) (.seq (.region 10 (aT 10) false) (.seq (.seq (.region 11 (aT 11) false) (.seq (.region 12 (aT 12) false) (.cond (.tmp 53) (.seq (.region 13 (aT 13) false) (.seq (.region 14 (aT 14) false) (.cond (.tmp 61) (.region 15 (aT 15) false) .skip))) .skip))) (.seq (.region 16 (aT 16) false) (.seq (.region 17 (aT 17) false) (.block 2 (.loop (.seq (.region 18 (aT 18) false) (.seq (.cond (.tmp 76) .skip (.exit 2)) (.seq (.block 3 (.seq (.region 19 (aT 19) false) (.seq (.region 20 (aT 20) false) (.cond (.tmp 91) (.seq (.region 21 (aT 21) false) (.region 22 (aT 22) false)) .skip)))) (.region 23 (aT 23) false))))))))))))))))) (.seq (.region 24 (aT 24) false) .ret))))))):=ae
def aFr:f99.ntmps=101:=ae
def bR(k j:Nat):Oper:=((aT k)[j]?).getD default
def aFs:=aM aT bR 0 0 (.box 43 (.tmp 0)) (some 2)
def aFt:=aM aT bR 0 1 (.assign (.const (.slice none 0 0))) (some 4)
def aFu:=aM aT bR 1 0 (.load 43 (.tmp 2)) (some 18)
def aFv:=aM aT bR 1 1 (.buildSlice 32 1 #[(0,.tmp 18)]) (some 19)
def aFw:=aM aT bR 1 2 (.build 34 #[(0,.tmp 19)]) (some 20)
def aFx:=aM aT bR 1 3 (.call ⟨.value (.func 27),#[.tmp 20],#[34]⟩) (some 21)
def aFy:=aM aT bR 1 4 (.binOp .neq 28 (.tmp 21) (.const (.int .i64 0)) 28) (some 22)
def aFz:=aM aT bR 3 0 (.load 43 (.tmp 2)) (some 23)
def aFA:=aM aT bR 3 1 (.move (.tmp 1)) (some 24)
def aFB:=aM aT bR 3 2 (.call ⟨.value (.func 134),#[.tmp 23,.tmp 24],#[43,54]⟩) (some 25)
def aFC:=aM aT bR 3 3 (.assign (.tmp 25)) (some 5)
def aFD:=aM aT bR 4 0 (.fieldAddr 43 (.tmp 2) 4) (some 26)
def aFE:=aM aT bR 4 1 (.load 3 (.tmp 26)) (some 27)
def aFF:=aM aT bR 4 2 (.binOp .add 3 (.tmp 27) (.const (.int .i64 1)) 3) (some 28)
def aFG:=aM aT bR 4 3 (.makeSlice 170 (.tmp 28) (.tmp 28)) (some 29)
def aFH:=aM aT bR 4 4 (.assign (.tmp 29)) (some 6)
def aFI:=aM aT bR 5 0 (.move (.tmp 6)) (some 30)
def aFJ:=aM aT bR 5 1 (.indexAddr 170 (.tmp 30) (.const (.int .i64 0))) (some 31)
def aFK:=aM aT bR 5 2 (.store 4 (.tmp 31) (.const (.bool true))) (none)
def aFL:=aM aT bR 6 0 (.buildSlice 46 1 #[(0,.const (.int .i64 0))]) (some 32)
def aFM:=aM aT bR 6 1 (.assign (.tmp 32)) (some 7)
def aFN:=aM aT bR 7 0 (.move (.tmp 7)) (some 33)
def aFO:=aM aT bR 7 1 (.call ⟨.builtin .len,#[.tmp 33],#[46]⟩) (some 34)
def aFP:=aM aT bR 7 2 (.binOp .gtr 3 (.tmp 34) (.const (.int .i64 0)) 3) (some 35)
def aFQ:=aM aT bR 8 0 (.move (.tmp 7)) (some 36)
def aFR:=aM aT bR 8 1 (.indexAddr 46 (.tmp 36) (.const (.int .i64 0))) (some 37)
def aFS:=aM aT bR 8 2 (.load 3 (.tmp 37)) (some 38)
def aFT:=aM aT bR 8 3 (.assign (.tmp 38)) (some 8)
def aFU:=aM aT bR 9 0 (.move (.tmp 7)) (some 39)
def aFV:=aM aT bR 9 1 (.slice 46 (.tmp 39) (some (.const (.int .i64 1))) none none) (some 40)
def aFW:=aM aT bR 9 2 (.assign (.tmp 40)) (some 7)
def aFX:=aM aT bR 10 0 (.move (.tmp 5)) (some 41)
def aFY:=aM aT bR 10 1 (.move (.tmp 8)) (some 42)
def aFZ:=aM aT bR 10 2 (.indexAddr 172 (.tmp 41) (.tmp 42)) (some 43)
def aF0:=aM aT bR 10 3 (.load 170 (.tmp 43)) (some 44)
def aF1:=aM aT bR 10 4 (.call ⟨.value (.func 135),#[.tmp 44],#[170]⟩) (some 45)
def aF2:=aM aT bR 10 5 (.assign (.tmp 45)) (some 9)
def aF3:=aM aT bR 11 0 (.load 43 (.tmp 2)) (some 47)
def aF4:=aM aT bR 11 1 (.move (.tmp 8)) (some 48)
def aF5:=aM aT bR 11 2 (.call ⟨.value (.func 136),#[.tmp 47,.tmp 48],#[43,3]⟩) (some 49)
def aF6:=aM aT bR 11 3 (.move (.tmp 49)) (some 46)
def aF7:=aM aT bR 11 4 (.extract (.tmp 46) 0) (some 50)
def aF8:=aM aT bR 11 5 (.extract (.tmp 46) 1) (some 51)
def aF9:=aM aT bR 11 6 (.alloc 97) (some 10)
def aF_:=aM aT bR 11 7 (.store 97 (.tmp 10) (.tmp 50)) (none)
def aF':=aM aT bR 11 8 (.assign (.tmp 51)) (some 11)
def aGa:=aM aT bR 12 0 (.move (.tmp 11)) (some 52)
def aGb:=aM aT bR 12 1 (.binOp .eql 28 (.tmp 52) (.const (.int .i64 0)) 28) (some 53)
def aGc:=aM aT bR 13 0 (.move (.tmp 1)) (some 55)
def aGd:=aM aT bR 13 1 (.load 97 (.tmp 10)) (some 56)
def aGe:=aM aT bR 13 2 (.call ⟨.value (.func 137),#[.tmp 55,.tmp 56],#[54,97]⟩) (some 57)
def aGf:=aM aT bR 13 3 (.move (.tmp 57)) (some 54)
def aGg:=aM aT bR 13 4 (.extract (.tmp 54) 0) (some 58)
def aGh:=aM aT bR 13 5 (.extract (.tmp 54) 1) (some 59)
def aGi:=aM aT bR 13 6 (.assign (.tmp 58)) (some 12)
def aGj:=aM aT bR 13 7 (.assign (.tmp 59)) (some 13)
def aGk:=aM aT bR 14 0 (.move (.tmp 13)) (some 60)
def aGl:=aM aT bR 14 1 (.binOp .neq 3 (.tmp 60) (.const (.int .i64 0)) 3) (some 61)
def aGm:=aM aT bR 15 0 (.move (.tmp 9)) (some 62)
def aGn:=aM aT bR 15 1 (.move (.tmp 12)) (some 63)
def aGo:=aM aT bR 15 2 (.move (.tmp 13)) (some 64)
def aGp:=aM aT bR 15 3 (.binOp .eql 3 (.tmp 64) (.const (.int .i64 1)) 3) (some 65)
def aGq:=aM aT bR 15 4 (.indexAddr 170 (.tmp 62) (.tmp 63)) (some 66)
def aGr:=aM aT bR 15 5 (.store 4 (.tmp 66) (.tmp 65)) (none)
def aGs:=aM aT bR 16 0 (.load 43 (.tmp 2)) (some 68)
def aGt:=aM aT bR 16 1 (.move (.tmp 8)) (some 69)
def aGu:=aM aT bR 16 2 (.call ⟨.value (.func 138),#[.tmp 68,.tmp 69],#[43,3]⟩) (some 70)
def aGv:=aM aT bR 16 3 (.move (.tmp 70)) (some 67)
def aGw:=aM aT bR 16 4 (.extract (.tmp 67) 0) (some 71)
def aGx:=aM aT bR 16 5 (.extract (.tmp 67) 1) (some 72)
def aGy:=aM aT bR 16 6 (.assign (.tmp 71)) (some 14)
def aGz:=aM aT bR 16 7 (.assign (.tmp 72)) (some 15)
def aGA:=aM aT bR 17 0 (.move (.tmp 14)) (some 73)
def aGB:=aM aT bR 17 1 (.call ⟨.builtin .len,#[.tmp 73],#[46]⟩) (some 74)
def aGC:=aM aT bR 17 2 (.move (.const (.int .i64 0))) (some 75)
def aGD:=aM aT bR 18 0 (.binOp .lss 3 (.tmp 75) (.tmp 74) 3) (some 76)
def aGE:=aM aT bR 19 0 (.indexAddr 46 (.tmp 73) (.tmp 75)) (some 77)
def aGF:=aM aT bR 19 1 (.load 3 (.tmp 77)) (some 78)
def aGG:=aM aT bR 19 2 (.assign (.tmp 78)) (some 17)
def aGH:=aM aT bR 20 0 (.move (.tmp 5)) (some 79)
def aGI:=aM aT bR 20 1 (.move (.tmp 17)) (some 80)
def aGJ:=aM aT bR 20 2 (.indexAddr 172 (.tmp 79) (.tmp 80)) (some 81)
def aGK:=aM aT bR 20 3 (.load 170 (.tmp 81)) (some 82)
def aGL:=aM aT bR 20 4 (.move (.tmp 9)) (some 83)
def aGM:=aM aT bR 20 5 (.call ⟨.value (.func 139),#[.tmp 82,.tmp 83],#[170,170]⟩) (some 84)
def Xb:=aM aT bR 20 6 (.move (.tmp 84)) (some 85)
def aiD:=tM aT bR 20 7 (.move (.tmp 6)) (some 86) (6,false)
def aiE:=tM aT bR 20 8 (.move (.tmp 17)) (some 87) (6,false)
def aiF:=tM aT bR 20 9 (.indexAddr 170 (.tmp 86) (.tmp 87)) (some 88) (6,false)
def aiG:=tM aT bR 20 10 (.load 4 (.tmp 88)) (some 89) (6,false)
def aiH:=tM aT bR 20 11 (.unOp .not 4 (.tmp 89)) (some 90) (6,false)
def aGN:=aM aT bR 20 12 (.pick (.tmp 85) (.const (.bool true)) (.tmp 90)) (some 91)
def aGO:=aM aT bR 21 0 (.move (.tmp 6)) (some 92)
def aGP:=aM aT bR 21 1 (.move (.tmp 17)) (some 93)
def aGQ:=aM aT bR 21 2 (.indexAddr 170 (.tmp 92) (.tmp 93)) (some 94)
def aGR:=aM aT bR 21 3 (.store 4 (.tmp 94) (.const (.bool true))) (none)
def aGS:=aM aT bR 22 0 (.move (.tmp 7)) (some 95)
def aGT:=aM aT bR 22 1 (.move (.tmp 17)) (some 96)
def aGU:=aM aT bR 22 2 (.buildSlice 46 1 #[(0,.tmp 96)]) (some 97)
def aGV:=aM aT bR 22 3 (.call ⟨.builtin .append,#[.tmp 95,.tmp 97],#[46,46]⟩) (some 98)
def aGW:=aM aT bR 22 4 (.assign (.tmp 98)) (some 7)
def aGX:=aM aT bR 23 0 (.binOp .add 3 (.tmp 75) (.const (.int .i64 1)) 3) (some 99)
def aGY:=aM aT bR 23 1 (.move (.tmp 99)) (some 75)
def aGZ:=aM aT bR 24 0 (.move (.tmp 5)) (some 100)
def aG0:=aM aT bR 24 1 (.assign (.tmp 100)) (some 4)
def aG1:List.range (aT 0).size=[0,1]:=ae
def aG2:List.range (aT 1).size=[0,1,2,3,4]:=ae
def aG3:List.range (aT 3).size=[0,1,2,3]:=ae
def aG4:List.range (aT 4).size=[0,1,2,3,4]:=ae
def aG5:List.range (aT 5).size=[0,1,2]:=ae
def aG6:List.range (aT 6).size=[0,1]:=ae
def aG7:List.range (aT 7).size=[0,1,2]:=ae
def aG8:List.range (aT 8).size=[0,1,2,3]:=ae
def aG9:List.range (aT 9).size=[0,1,2]:=ae
def aG_:List.range (aT 10).size=[0,1,2,3,4,5]:=ae
def aG':List.range (aT 11).size=[0,1,2,3,4,5,6,7,8]:=ae
def aHa:List.range (aT 12).size=[0,1]:=ae
def aHb:List.range (aT 13).size=[0,1,2,3,4,5,6,7]:=ae
def aHc:List.range (aT 14).size=[0,1]:=ae
def aHd:List.range (aT 15).size=[0,1,2,3,4,5]:=ae
def aHe:List.range (aT 16).size=[0,1,2,3,4,5,6,7]:=ae
def aHf:List.range (aT 17).size=[0,1,2]:=ae
def aHg:List.range (aT 18).size=[0]:=ae
def aHh:List.range (aT 19).size=[0,1,2]:=ae
def aHi:List.range (aT 20).size=[0,1,2,3,4,5,6,7,8,9,10,11,12]:=ae
def aHj:List.range (aT 21).size=[0,1,2,3]:=ae
def aHk:List.range (aT 22).size=[0,1,2,3,4]:=ae
def aHl:List.range (aT 23).size=[0,1]:=ae
def aHm:List.range (aT 24).size=[0,1]:=ae
def aHn:f99.results= #[.tmp 4]:=ae
structure zc(wB:World)(O:Nat->Prop)(nm:List UInt8)(ps:List aa)(rs:Int)(bo:List aa)(ct:Int)(cs:List Value)(fb:Nat)(lv:Value)(vs:List aa)(k N:Nat):Prop where
 a:gj aJ cO O wB
 i:ax aJ wB O (aG nm ps rs bo ct) bh (.agg cs.toArray)
 d:cs.length=5
 e:dH wB fb 0 cs
 l:ax aJ wB O (.d 72 vs) bh lv
 b:bF [aG nm ps rs bo ct]=true
 j:vs.length=k
 f:k<=50
 g:ct+1=(N:Int)
 m:N<=1000
def Eg(lv:Value)(fb:Nat)(y:Value)(sb N:Nat)(x:Value):lJ:=[(1,lv),(2,.pointer (some ⟨fb,0,none⟩)),(5,y),(6,.slice (some ⟨sb,0,none⟩) N N),(7,x)]
structure Xc(wB wI:World)(k N:Nat)(lv:Value)(fb:Nat)(y:Value)(b0:Nat)(bs:List Nat)(sb wb0:Nat)(bv nv:Value)(beh nx:List aa)(A:iY)(r:List aa)(act:Act)(w:World):Prop where
 b:∃a x wb,iH wB k N y b0 bs sb a x wb w/\nc a<=1000000/\(wb=wb0\/wI.heap.size<=wb)/\rN beh r a=A/\bM 101 (Eg lv fb y sb N x++ [(9,bv),(73,nv),(74,.int .i64 (nx.length:Int)),(75,.int .i64 ((nx.length-r.length:Nat):Int))]) act
 d:cw (λc=>c=sb\/c∈bs\/c=wb0) wI w
 e:∃p,nx=p++r
def cw.MK(h:cw S w0 w)(g:cw (· =b) w w')(hb:S b\/w0.heap.size<=b):cw S w0 w':=⟨g.f.trans h.f,g.i.trans h.i,g.j.trans h.j,eb h.d g.d,λc hc hS=>(g.a c (dJ hc h.d) (λe=>by
 rcases hb with hb |hb
 ·exact hS (e▸hb)
 ·omega)).trans (h.a c hc hS)⟩
section
variable{wB wI:World}{O:Nat->Prop}{nm:List UInt8}{ps:List aa}{rs:Int}{bo:List aa}{ct:Int}{cs:List Value}{fb:Nat}{lv:Value}{vs:List aa}{k N kn:Nat}{Q:Exit->Act->World->Prop}
variable{y:Value}{b0:Nat}{bs:List Nat}{sb wb0:Nat}{bv nv:Value}{beh nx:List aa}{A:iY}
def ML:Code:=.seq (.region 18 (aT 18) false) (.seq (.cond (.tmp 76) .skip (.exit 2)) (.seq (.block 3 (.seq (.region 19 (aT 19) false) (.seq (.region 20 (aT 20) false) (.cond (.tmp 91) (.seq (.region 21 (aT 21) false) (.region 22 (aT 22) false)) .skip)))) (.region 23 (aT 23) false)))
def aHo(hB:zc wB O nm ps rs bo ct cs fb lv vs k N)(xK:nf wI bv hb k beh)(tL:k≠0->hb∉wb0::sb::b0::bs/\wB.heap.size<=hb)(pY:∀q∈nx,pJ ct q)
 {nb no cap:Nat}(zJ:nv=.slice (some ⟨nb,no,none⟩) nx.length cap)(pc:nb∉wb0::sb::b0::bs)(N9:nb<wI.heap.size)(tI:∀(i:Nat)(u:aa),nx[i]? =some u->wI.cell? ⟨nb,no+i,none⟩=some (.int .i64 u.I))(hlen:nx.length<=1000000)
 {q r}(hI:Xc wB wI k N lv fb y b0 bs sb wb0 bv nv beh nx A (q::r) act w)
  (eC:∀tV w',Xc wB wI k N lv fb y b0 bs sb wb0 bv nv beh nx A r tV w'->Q .normal tV w'):
  (Code.seq (.block 3 (.seq (.region 19 (aT 19) false) (.seq (.region 20 (aT 20) false) (.cond (.tmp 91) (.seq (.region 21 (aT 21) false) (.region 22 (aT 22) false)) .skip)))) (.region 23 (aT 23) false)).wpIn Fence.wide kn prog Q act w:=by
 obtain⟨⟨a,x,wb,st,hU,sc,hA,s0⟩,gW,p,hp⟩:=hI;have cP:=st.t;simp only[tB,jc,not_or]at cP;obtain⟨⟨n1,n2,n3⟩,⟨n4,n5⟩,n6,n7⟩:=cP;simp only[jc,not_or]at pc tL;have gT:p.length=nx.length- (r.length+1)/\r.length+1<=nx.length:=by rw[hp];simp
 obtain⟨i,hi⟩:∃i,i=nx.length- (r.length+1):=⟨_,rfl⟩
 have s0:bM 101 (Eg lv fb y sb N x++ [(9,bv),(73,nv),(74,.int .i64 (nx.length:Int)),(75,.int .i64 (i:Int))]) act:=by rw[hi];exact s0
 have Iz:nx[i]? =some q:=by rw[hp,kx ab,gT.1,<-hi,ni];rfl
 obtain⟨pO,vh,zr⟩:=pY q (eg Iz);have jQ:=hB.g;obtain⟨qn,akV⟩:∃qn:Nat,q.I=(qn:Int):=⟨q.I.toNat,ab⟩
 have IU:qn<N:=ab;have N_:q.I.toNat=qn:=ab;have gG:w.cell? ⟨nb,no+i,none⟩=some (.int .i64 (qn:Int)):=by
  rw[<-akV];refine yW (gW.a nb N9 ?_) (tI i q Iz);rintro(h |h |h)
  ·exact pc.2.1 h
  ·exact pc.2.2.2 h
  ·exact pc.1 h
 have j6:bs.length=N:=st.f.c.trans st.g;obtain⟨bq,E3⟩:∃bq,bs[qn]? =some bq:=⟨_,cV ab⟩
 have Cj:=eg E3;have il:a.a[qn]? =some (a.a.getD qn .m):=by rw[dD,cV (by rw[st.g];exact IU)];rfl
 obtain⟨l,xG,tU⟩:=st.f.d qn bq _ E3 il;have hy:y=.slice (some ⟨b0,0,none⟩) N N:=by rw[st.f.f,st.g]
 refine b8 (lx (b8 (cT ?_)));rw[aHh];refine ru aW aGE s0 av rfl rfl (dh some zJ) rfl (rR i) ab λa1 s1=> ?_;rw[dE,show no+i*(aJ 3).a=no+i by show no+i*1=_;omega]at s1;refine sK aW aGF s1 av rfl rfl rfl gG λa2 s2=>iT aGG s2 av rfl λa3 s3=> ?_;show Code.wpIn Fence.wide kn prog _ _ a3 w;refine b8 (cT ?_);rw[aHi];have Zn:w.cell? ⟨b0,qn,none⟩=some (wZ k bq):=by simp only[World.cell?,st.f.a];rw[tE,fX,E3];rfl
 refine df aGH s3 av rfl λa4 s4=>df aGI s4 av rfl λa5 s5=> ?_;refine ru aW aGJ s5 av rfl rfl (dh some hy) rfl (rR qn) ab λa6 s6=> ?_;rw[dE,show 0+qn*(aJ 170).a=qn by show 0+qn*1=_;omega]at s6;refine sK aW aGK s6 av rfl rfl rfl Zn λa7 s7=>df aGL s7 av rfl λa8 s8=> ?_;have N':=st.D;have Oa:=st.j;have xz:nf w bv hb k beh:=xK.D λh=>gW.a hb (xK.I h) (by
  obtain⟨⟨h1,h2,h3,h4⟩,_⟩:=tL h;rintro(h |h |h)
  ·exact h2 h
  ·exact h4 h
  ·exact h1 h)
 have q5:∀c,O c->c<wB.heap.size:=hB.a.a;have aMt:gj aJ cO (λc=>(O c\/(wB.heap.size<=c/\c<w.heap.size/\c≠bq/\(k≠0->c≠hb)))\/c=bq) w:=by
  refine Ee hB.a st.d (λc hc=> ?_) λc hc=> ?_
  ·rcases hc with(h |h) |h
   ·exact .inl h
   ·exact .inr h.1
   ·rw[h];exact .inr (Oa bq (by simp[Cj]))
  ·rcases hc with(h |h) |h
   ·exact dJ (q5 c h) st.d.d
   ·exact h.2.1
   ·rw[h];exact N' bq (by simp[Cj])
 have aNo:=Oa bq (by simp[Cj]);refine oG aGM s8 aix (vs:=[wZ k bq,bv]) (by simp[s8.I (x:=.tmp 82) rfl,s8.I (x:=.tmp 83) rfl]) (aFp (kn:=kn-1) aMt tU (λh=>by
  rcases h with h |h
  ·have:=q5 _ h;omega
  ·exact h.2.2.1 rfl) xz (λh=>⟨λe=>(tL h).1.2.2.2 (e▸Cj),λhh=>by
  rcases hh with hh |hh
  ·have:=q5 _ hh;have:=(tL h).2;omega
  ·exact hh.2.2.2 h rfl⟩) (by have:=hB.f;omega)) λe w1 ⟨he,fw,aMu⟩=>⟨_,he,?_⟩
 have s9:=s8.U (d:=84) av (Value.bool (du l beh).2);refine df Xb s9 av rfl λa10 s10=> ?_;obtain⟨c,hc⟩:∃c,c=(du l beh).2:=⟨_,rfl⟩
 rw[<-hc]at s10;have st1:=st.aFk E3 fw aMu;have aMv:a.b[qn]? =some (a.b.getD qn .m):=by rw[dD,cV (by rw[st.m];exact IU)];rfl
 obtain⟨sn,Zo⟩:∃sn,sn=(a.b.getD qn .m).b_:=⟨_,rfl⟩
 have aMw:w1.cell? ⟨sb,qn,none⟩=some (.bool sn):=by simp only[World.cell?,st1.n];rw[Zo];simpa using aiv aMv
 have g6:((aT 20)[6]?).bind (λo:Oper=>o.dst)=some 85:=by rw[Xb.b];exact Xb.c
 refine HA (x:=.slice (some ⟨sb,0,none⟩) N N) aiD g6 s10 av av rfl (λ_=>by rw[<-s10.I (x:=.tmp 6) rfl];exact CR aiD.a) λa11 s11=> ?_;refine HA (x:=.int .i64 (qn:Int)) aiE g6 s11 av av rfl (λ_=>by rw[<-s11.I (x:=.tmp 17) rfl];exact CR aiE.a) λa12 s12=> ?_;refine HA (x:=.pointer (some ⟨sb,qn,none⟩)) aiF g6 s12 av av rfl (λh=>by
  have e1:a12.eval (.tmp 86)=.slice (some ⟨sb,0,none⟩) N N:=by rw[s12.I (x:=.tmp 86) rfl,h];rfl
  have e2:a12.eval (.tmp 87)=.int .i64 (qn:Int):=by rw[s12.I (x:=.tmp 87) rfl,h];rfl
  have:=A2 (P:=prog) (w:=w1) (a:=a12) aW aiF.a rfl rfl e1 e2 (rR qn) ab;rw[dE,show 0+qn*(aJ 4).a=qn by show 0+qn*1=_;omega]at this;exact this) λa13 s13=> ?_
 refine HA (x:=.bool sn) aiG g6 s13 av av rfl (λh=>by
  have e1:a13.eval (.tmp 88)=.pointer (some ⟨sb,qn,none⟩):=by rw[s13.I (x:=.tmp 88) rfl,h];rfl
  exact ye aW rfl rfl (uO aMw) aiG.a e1) λa14 s14=> ?_
 refine HA (x:=.bool !sn) aiH g6 s14 av av rfl (λh=>by
  have e1:a14.eval (.tmp 89)=.bool sn:=by rw[s14.I (x:=.tmp 89) rfl,h];rfl
  exact PL aiH.a e1) λa15 s15=> ?_
 refine aE_ (b:=c) (v:=.bool (c || !sn)) aGN s15 av rfl (λh=>by rw[h];rfl) (λh=>by
  show some (oU c (.bool !sn))=_;rw[h];rfl) λa16 s16=> ?_
 show Code.wpIn Fence.wide kn prog _ _ a16 w1;have gS:(a.a.getD qn .m).U=l:=by rw[xG];rfl
 have IV:cw (λc=>c=sb\/c∈bs\/c=wb0) wI w1:=gW.MK fw (.inl (.inr (.inl Cj)));have tail:∀{Zp:Act}{w2:World}{a2:iY}{x2:Value}{wb2:Nat},a2=w9 beh q a->iH wB k N y b0 bs sb a2 x2 wb2 w2->(wb2=wb0\/wI.heap.size<=wb2)->cw (λc=>c=sb\/c∈bs\/c=wb0) wI w2->bM 101 [(1,lv),(2,.pointer (some ⟨fb,0,none⟩)),(5,y),(6,.slice (some ⟨sb,0,none⟩) N N),(7,x2),(9,bv),(73,nv),(74,.int .i64 (nx.length:Int)),(75,.int .i64 (i:Int))] Zp->(Code.region 23 (aT 23) false).wpIn Fence.wide kn prog Q Zp w2:=by
  intro Zp w2 a2 x2 wb2 im st2 aMx aMy s;refine cT ?_;rw[aHl];refine yl aGX s av rfl rfl λa3 s3=>df aGY s3 av rfl λa4 s4=> ?_;rw[ep ab ab,show(i:Int)+1=((nx.length-r.length:Nat):Int)from ab]at s4;refine eC a4 w2 ⟨⟨a2,x2,wb2,st2,?_,aMx,?_,?_⟩,aMy,p++ [q],by rw[hp];simp⟩
  ·rw[im];exact eb (aiq (by rw[N_,st.g];exact IU) (by rw[N_,st.m];exact IU)) hU
  ·rw[im,<-hA];rfl
  ·show bM 101 [(1,lv),(2,.pointer (some ⟨fb,0,none⟩)),(5,y),(6,.slice (some ⟨sb,0,none⟩) N N),(7,x2),(9,bv),(73,nv),(74,.int .i64 (nx.length:Int)),(75,.int .i64 ((nx.length-r.length:Nat):Int))] a4;exact s4.D rfl (s4.D rfl (s4.D rfl (s4.D rfl (s4.D rfl (s4.D rfl (s4.D rfl (s4.D rfl (s4.D rfl s4.V))))))))
 cases hf:c || !sn with
 |false=>rw[hf]at s16;refine fY (t:=false) (s16.I (x:=.tmp 91) rfl) (nj ?_);show(Code.region 23 (aT 23) false).wpIn Fence.wide kn prog _ a16 w1;refine tail ?_ st1 sc IV (s16.D rfl (s16.D rfl (s16.D rfl (s16.D rfl (s16.D rfl (s16.D rfl (s16.D rfl (s16.D rfl (s16.D rfl s16.V)))))))));unfold w9;rw[N_,gS,<-hc,<-Zo,hf];rfl
 |true=>
  rw[hf]at s16;refine fY (t:=true) (s16.I (x:=.tmp 91) rfl) (b8 (cT ?_));rw[aHj];refine df aGO s16 av rfl λa17 s17=>df aGP s17 av rfl λa18 s18=> ?_;refine ru aW aGQ s18 av rfl rfl rfl rfl (rR qn) ab λa19 s19=> ?_;rw[dE,show 0+qn*(aJ 4).a=qn by show 0+qn*1=_;omega]at s19;refine ui aW aGR s19 rfl rfl rfl rfl rfl rfl st1.n (by unfold lU;simp[st1.m];have:=st1.m;omega) λw2 qO=> ?_;have st2:=st1.V IU qO;show(Code.region 22 (aT 22) false).wpIn Fence.wide kn prog _ a19 w2;refine cT ?_;rw[aHk];refine df aGS s19 av rfl λa20 s20=>df aGT s20 av rfl λa21 s21=> ?_;refine W8 aW aGU s21 av rfl rfl rfl rfl λa22 s22=> ?_;obtain⟨w3,q0⟩:∃w3,w3=w2.alloc (.cells (Value.int .i64 (qn:Int)).cells 3):=⟨_,rfl⟩
  rw[<-q0];have j3:cw eL w2 w3:=by rw[q0];exact uW _
  have st3:=st2.I j3;have aMz:w3.cell? ⟨w2.heap.size,0,none⟩=some (.int .i64 (qn:Int)):=by rw[q0];simp only[World.cell?,ji w2 _];rfl
  refine aFa aW aGV s22 av rfl rfl st3.o rfl aMz ?_ λa23 w4 yv b' s23 hW hb' hC=>iT aGW s23 av rfl λa24 s24=> ?_
  ·have:nc a=js a.a+gn a.b+a.c.length:=rfl;show a.c.length<=1000000;omega
  have aNp:wI.heap.size<=w3.heap.size:=eb IV.d (by have:=j3.d;have:=qO.a;omega);have st4:=st3.U hC hW hb' (λp hp=>by
   rcases List.mem_append.1 hp with h |h
   ·exact st.s p h
   ·rw[List.mem_singleton.1 h];omega)
  show(Code.region 23 (aT 23) false).wpIn Fence.wide kn prog _ a24 w4;refine tail ?_ st4 ?_ ?_ (s24.D rfl (s24.D rfl (s24.D rfl (s24.D rfl (s24.D rfl (s24.D rfl (s24.D rfl (s24.D rfl (s24.D rfl s24.V)))))))))
  ·unfold w9;rw[N_,gS,<-hc,<-Zo,hf,akV];rfl
  ·rcases hb' with h |h
   ·rw[h];exact sc
   ·exact .inr ab
  ·refine cw.MK ((IV.MK (sY qO) (.inl (.inl rfl))).D (j3.I λ_ h=>h.elim)) hC ?_;rcases sc with h |h
   ·exact .inl (.inr (.inr h))
   ·exact .inr h
end
def MM{o:Nat}{cs}(h:w'.heap[b]? =w.heap[b]?)(hl:dH w b o cs):dH w' b o cs:=λj u hj=>yW h (hl j u hj)
def aiI{j:Nat}{u}(h:w.cell? ⟨b,j,none⟩=some u):b<w.heap.size:=by
 rcases od b w.heap.size with h1 |h1
 ·exact h1
 ·simp[World.cell?,EC h1]at h
def iH.aHp{wB}{N:Nat}{b0 sb wb:Nat}(h:iH wB k N y b0 bs sb a x wb w)(hc:cw S w w')(hS:∀b,S b->wB.heap.size<=b/\b∉wb::sb::b0::bs):iH wB k N y b0 bs sb a x wb w':=by have hs:∀b∈wb::sb::b0::bs,w'.heap[b]? =w.heap[b]? :=λb hb=>hc.a b (h.D b hb) λh=>(hS b h).2 hb;exact⟨h.f.D λb hb=>hs b (by simp only[jc]at hb⊢;rcases hb with h |h<;>simp[h]),h.g,(hs sb aB).trans h.n,h.m,h.u,h.o.D (hs wb aB),h.s,h.t,h.j,⟨hc.f.trans h.d.f,hc.i.trans h.d.i,hc.j.trans h.d.j,eb h.d.d hc.d,λc fw _=>(hc.a c (dJ fw h.d.d) λh=>by have:=(hS c h).1;omega).trans (h.d.a c fw λh=>h)⟩⟩
section
variable{wB wI:World}{O:Nat->Prop}{nm:List UInt8}{ps:List aa}{rs:Int}{bo:List aa}{ct:Int}{cs:List Value}{fb:Nat}{lv:Value}{vs:List aa}{k N kn:Nat}{Q:Exit->Act->World->Prop}
variable{y:Value}{b0:Nat}{bs:List Nat}{sb wb0:Nat}{bv nv:Value}{beh nx:List aa}{A:iY}
def zc.D(hB:zc wB O nm ps rs bo ct cs fb lv vs k N):fb<wB.heap.size:=by
 have h:=hB.e;have hl:=hB.d;match cs,hl with
 |c::_,_=>exact aiI (h 0 c rfl)
def aHq(hB:zc wB O nm ps rs bo ct cs fb lv vs k N)(xK:nf wI bv hb k beh)(tL:k≠0->hb∉wb0::sb::b0::bs/\wB.heap.size<=hb)(pY:∀q∈nx,pJ ct q)
  (zJ:(nx=[]/\∃a c,nv=.slice a 0 c)\/∃nb no cap,nv=.slice (some ⟨nb,no,none⟩) nx.length cap/\nb∉wb0::sb::b0::bs/\nb<wI.heap.size/\∀(i:Nat)(u:aa),nx[i]? =some u->wI.cell? ⟨nb,no+i,none⟩=some (.int .i64 u.I))(hlen:nx.length<=1000000)
 (st:iH wB k N y b0 bs sb a x wb0 wI)(hU:nc a<=1000000)(hs:bM 101 [(1,lv),(2,.pointer (some ⟨fb,0,none⟩)),(5,y),(6,.slice (some ⟨sb,0,none⟩) N N),(7,x),(9,bv),(73,nv),(74,.int .i64 (nx.length:Int)),(75,.int .i64 0)] act)
  (eC:∀tV w' x' wb',iH wB k N y b0 bs sb (rN beh nx a) x' wb' w'->bM 101 (Eg lv fb y sb N x') tV->Q .normal tV w'):(Code.block 2 (.loop ML)).wpIn Fence.wide kn prog Q act wI:=by
 refine lx (uc (λr act w=>Xc wB wI k N lv fb y b0 bs sb wb0 bv nv beh nx (rN beh nx a) r act w) List.length nx ⟨⟨a,x,wb0,st,hU,.inl rfl,rfl,?_⟩,cw.V,[],rfl⟩ ?_)
 ·rw[ni];exact hs
 intro r act w hI;obtain⟨⟨a1,x1,wb1,st1,Ob,aMA,Oc,s1⟩,IV,p,hp⟩:=hI;have gT:nx.length=p.length+r.length:=by rw[hp];simp
 have s1:bM 101 [(1,lv),(2,.pointer (some ⟨fb,0,none⟩)),(5,y),(6,.slice (some ⟨sb,0,none⟩) N N),(7,x1),(9,bv),(73,nv),(74,.int .i64 (nx.length:Int)),(75,.int .i64 ((nx.length-r.length:Nat):Int))] act:=s1;unfold ML;refine b8 (cT ?_);rw[aHg];refine CZ aGD s1 av rfl rfl λa2 s2=> ?_;cases r with
 |nil=>
  have h8:a2.eval (.tmp 76)=.bool false:=by rw[s2.I (x:=.tmp 76) rfl];exact dh Value.bool (ly aB)
  refine b8 (fY (t:=false) h8 (qL ?_));refine eC a2 w x1 wb1 ?_ (s2.D rfl (s2.D rfl (s2.D rfl (s2.D rfl (s2.D rfl s2.V)))));rw[<-Oc];exact st1
 |cons q r=>
  have h8:a2.eval (.tmp 76)=.bool true:=by rw[s2.I (x:=.tmp 76) rfl];exact dh Value.bool (aD (by simp at gT⊢;omega))
  refine b8 (fY (t:=true) h8 (nj ?_));rcases zJ with⟨h0,_⟩ | ⟨nb,no,cap,zJ,pc,N9,tI⟩
  ·rw[h0]at hp;simp at hp
  refine aHo (r:=r) (q:=q) hB xK tL pY zJ pc N9 tI hlen ⟨⟨a1,x1,wb1,st1,Ob,aMA,Oc,?_⟩,IV,p,hp⟩ λa' w' hh=>⟨r,hh,zp _⟩
  show bM 101 [(1,lv),(2,.pointer (some ⟨fb,0,none⟩)),(5,y),(6,.slice (some ⟨sb,0,none⟩) N N),(7,x1),(9,bv),(73,nv),(74,.int .i64 (nx.length:Int)),(75,.int .i64 ((nx.length- (q::r).length:Nat):Int))] a2;exact s2.D rfl (s2.D rfl (s2.D rfl (s2.D rfl (s2.D rfl (s2.D rfl (s2.D rfl (s2.D rfl (s2.D rfl s2.V))))))))
def aHr{s}(h:ax aJ w S (dV s) bh x):∃cs:List Value,x=.agg cs.toArray/\cs.length=8/\∀u∈cs,u.oneCell'=true:=by obtain⟨ar,rfl,u0,t0,v0,g0,u1,t1,v1,g1,u2,t2,v2,g2,u3,t3,v3,g3,u4,t4,v4,g4,u5,t5,v5,g5,u6,t6,v6,g6,u7,t7,v7,g7,v8⟩:=h;obtain⟨_,g2,_⟩:=g2;obtain⟨_,g4,_⟩:=g4;obtain⟨_,_,g5,_⟩:=g5;obtain⟨_,_,g6,_⟩:=g6;obtain⟨_,_,g7,_⟩:=g7;have g0:u0=_:=g0;have g1:u1=_:=g1;have g3:u3=_:=g3;have v8:t7=[]:=v8;subst g0 g1 g2 g3 g4 g5 g6 g7 v8 v7 v6 v5 v4 v3 v2 v1;refine⟨ar.toList,rfl,by rw[v0];rfl,?_⟩;rw[v0];intro u hu;simp only[jc,oZ,og]at hu;rcases hu with rfl |rfl |rfl |rfl |rfl |rfl |rfl |rfl<;>rfl
def MN:Code:=.seq (.region 11 (aT 11) false) (.seq (.region 12 (aT 12) false) (.cond (.tmp 53) (.seq (.region 13 (aT 13) false) (.seq (.region 14 (aT 14) false) (.cond (.tmp 61) (.region 15 (aT 15) false) .skip))) .skip))
def aHs(hB:zc wB O nm ps rs bo ct cs fb lv vs k N){row}(hc:cw eL wB w)(xK:nf w bv hb k row)(tL:k≠0->wB.heap.size<=hb)
  (hs:bM 101 [(1,lv),(2,.pointer (some ⟨fb,0,none⟩)),(5,y),(6,.slice (some ⟨sb,0,none⟩) N N),(7,x),(8,.int .i64 p),(9,bv)] act)
  (eC:∀tV w',cw (λc=>k≠0/\c=hb) w w'->nf w' bv hb k (Hz (aG nm ps rs bo ct) vs bo p row)->bM 101 [(1,lv),(2,.pointer (some ⟨fb,0,none⟩)),(5,y),(6,.slice (some ⟨sb,0,none⟩) N N),(7,x),(8,.int .i64 p),(9,bv)] tV->Q .normal tV w'):MN.wpIn Fence.wide kn prog Q act w:=by
 unfold MN;have Ce:=MM (hc.a fb hB.D λh=>h) hB.e;have q5:∀c,O c->c<wB.heap.size:=hB.a.a;obtain⟨S,hS⟩:∃S:Nat->Prop,S=λc=>O c\/(wB.heap.size<=c/\c<w.heap.size):=⟨_,rfl⟩
 have E5:∀c,S c->O c\/wB.heap.size<=c:=λc h=>by
  rw[hS]at h;rcases h with h |h
  ·exact .inl h
  ·exact .inr h.1
 have tK:∀c,S c->c<w.heap.size:=λc h=>by
  rw[hS]at h;rcases h with h |h
  ·exact dJ (q5 c h) hc.d
  ·exact h.2
 have hg:gj aJ cO S w:=Ee hB.a hc E5 tK;refine b8 (cT ?_);rw[aG'];refine C1 aW aF3 hs av rfl rfl rfl Ce hB.d λa1 s1=>df aF4 s1 av rfl λa2 s2=> ?_;refine oG aF5 s2 aiy (vs:=[.agg cs.toArray,.int .i64 p]) (by simp[s2.I (x:=.tmp 47) rfl,s2.I (x:=.tmp 48) rfl]) (MJ (kn:=kn-1) ag9 aiy (args:=[aG nm ps rs bo ct,.c .i64 p]) rfl rfl hg ⟨_,_,rfl,Ef hc E5 hB.i,_,[],rfl,rfl,rfl⟩) λe w1 ⟨y1,he,fw,NR⟩=>⟨y1,he,?_⟩
 obtain⟨ar,rfl,sv,t0,e0,H7,ev,t1,e1,jN,e2⟩:=NR;have jN:ev=.int .i64 (fg (aG nm ps rs bo ct) bo p).2:=jN;have e2:t1=[]:=e2;subst e2 e1 jN;obtain⟨st,bg⟩:∃st,st=(fg (aG nm ps rs bo ct) bo p).1:=⟨_,rfl⟩
 obtain⟨er,Zq⟩:∃er,er=(fg (aG nm ps rs bo ct) bo p).2:=⟨_,rfl⟩
 rw[<-bg]at H7;rw[<-Zq]at e0;obtain⟨ss,aMB,akW,akO⟩:=aHr H7;subst aMB;have g0:ar[0]? =some (.agg ss.toArray):=by rw[<-fu,e0];rfl
 have g1:ar[1]? =some (.int .i64 er):=by rw[<-fu,e0];rfl
 have s3:=s2.U (d:=49) av (Value.tuple ar);refine df aF6 s3 av rfl λa4 s4=>Ed aF7 s4 av rfl g0 λa5 s5=>Ed aF8 s5 av rfl g1 λa6 s6=> ?_;refine ab6 aW aF9 s6 av rfl λa7 z hz s7=> ?_;obtain⟨bt,akX⟩:∃bt,bt=w1.heap.size:=⟨_,rfl⟩
 rw[<-akX]at s7;obtain⟨w2,mI⟩:∃w2,w2=w1.alloc (.cells z 97):=⟨_,rfl⟩
 rw[<-mI];have hz:z.size=8:=hz;have dw:cw eL w1 w2:=by rw[mI];exact uW _
 have eT:w2.heap[bt]? =some (.cells z 97 (0,0)):=by rw[mI,akX];exact ji w1 _
 refine ab7 aW aF_ s7 rfl (by rw[akW];rfl) rfl rfl akO eT ab λw3 xm=>iT aF' s7 av rfl λa8 s8=> ?_;have vA:=xm.i eT;have Od:dH w3 bt 0 ss:=λj u hj=>by simp only[World.cell?,vA];rw[show(List.take 0 z.toList++ss++List.drop (0+ss.length) z.toList)=ss++List.drop (0+ss.length) z.toList from aB];rw[tE];show(ss++_)[0+j]? =_;rw[show 0+j=j from ab,lZ (List.getElem?_eq_some_iff.1 hj).1];exact hj
 have j3:cw eL w1 w3:=⟨xm.f.trans dw.f,xm.g.trans dw.i,xm.h.trans dw.j,by rw[xm.a];exact dw.d,λc hc' _=>(xm.d c ab).trans (dw.a c hc' λh=>h)⟩
 have E6:=fw.D j3;show Code.wpIn Fence.wide kn prog _ _ a8 w3;refine b8 (cT ?_);rw[aHa];refine df aGa s8 av rfl λa9 s9=>ail aGb s9 av rfl rfl λa10 s10=> ?_;show Code.wpIn Fence.wide kn prog _ _ a10 w3;have Zr:nf w3 bv hb k row:=xK.D λh=>E6.a hb (xK.I h) λh=>h;have aMC:Hz (aG nm ps rs bo ct) vs bo p row=bif er==0 && (na vs (dp st) (eI st) (dG st)).2 !=0 then row.set (na vs (dp st) (eI st) (dG st)).1.toNat (.p ((na vs (dp st) (eI st) (dG st)).2==1))else row:=by rw[bg,Zq];rfl
 rw[aMC]at eC;cases h0:er==0 with
 |false=>rw[h0]at eC s10;refine fY (t:=false) (s10.I (x:=.tmp 53) rfl) (nj ?_);exact eC a10 w3 (E6.I λ_ h=>h.elim) Zr (s10.D rfl (s10.D rfl (s10.D rfl (s10.D rfl (s10.D rfl (s10.D rfl (s10.D rfl s10.V)))))))
 |true=>
  rw[h0]at eC s10;have aMD:er=0:=by simpa using h0
  refine fY (t:=true) (s10.I (x:=.tmp 53) rfl) (b8 (cT ?_));rw[aHb];have aME:=hc.D E6;have BQ:gj aJ cO S w3:=hg.D (rC E6 λc h=>.inl h) λc h=>dJ (tK c h) E6.d;have aMF:ax aJ w3 S (dV st) bh (.agg ss.toArray):=ax.D (rC j3 λc h=>.inl h) _ _ _ _ (λ_ _ h=>h) H7;have vw:=aFj (p:=p) hB.b (Zq▸aMD);rw[<-bg]at vw;refine df aGc s10 av rfl λa11 s11=>C1 aW aGd s11 av rfl rfl rfl Od (by rw[akW];rfl) λa12 s12=> ?_;refine oG aGe s12 aiz (vs:=[lv,.agg ss.toArray]) (by simp[s12.I (x:=.tmp 55) rfl,s12.I (x:=.tmp 56) rfl]) (MJ (kn:=kn-1) aDZ aiz (args:=[.d 72 vs,dV st]) (v:=.q [.c .i64 (na vs (dp st) (eI st) (dG st)).1,.c .i64 (na vs (dp st) (eI st) (dG st)).2]) (aZ (by
    rw[au,au];refine⟨⟨aD ?_,aD vw.1⟩,aD vw.2⟩;have:=hB.f;have:=hB.j;have:bP=9223372036854775807:=rfl;omega) rfl) rfl BQ ⟨_,_,rfl,Ef aME E5 hB.l,_,[],rfl,aMF,rfl⟩) λe w4 ⟨y4,he,Zs,akY⟩=>⟨y4,he,?_⟩
  obtain⟨ef,Zt⟩:∃ef,ef=na vs (dp st) (eI st) (dG st):=⟨_,rfl⟩
  rw[<-Zt]at akY eC;obtain⟨ar4,rfl,i4,t0,f0,Zu,e4,t1,f1,Zv,f2⟩:=akY;have Zu:i4=.int .i64 ef.1:=Zu;have Zv:e4=.int .i64 ef.2:=Zv;have f2:t1=[]:=f2;subst f2 f1 Zu Zv;have k0:ar4[0]? =some (.int .i64 ef.1):=by rw[<-fu,f0];rfl
  have k1:ar4[1]? =some (.int .i64 ef.2):=by rw[<-fu,f0];rfl
  have s13:=s12.U (d:=57) av (Value.tuple ar4);refine df aGf s13 av rfl λa14 s14=>Ed aGg s14 av rfl k0 λa15 s15=>Ed aGh s15 av rfl k1 λa16 s16=>iT aGi s16 av rfl λa17 s17=>iT aGj s17 av rfl λa18 s18=> ?_;show Code.wpIn Fence.wide kn prog _ _ a18 w4;refine b8 (cT ?_);rw[aHc];refine df aGk s18 av rfl λa19 s19=>aim aGl s19 av rfl rfl λa20 s20=> ?_;show Code.wpIn Fence.wide kn prog _ _ a20 w4;have Zw:=E6.D Zs;have Oe:nf w4 bv hb k row:=xK.D λh=>Zw.a hb (xK.I h) λh=>h;cases h1:ef.2 !=0 with
  |false=>rw[h1]at eC s20;refine fY (t:=false) (s20.I (x:=.tmp 61) rfl) (nj ?_);exact eC a20 w4 (Zw.I λ_ h=>h.elim) Oe (s20.D rfl (s20.D rfl (s20.D rfl (s20.D rfl (s20.D rfl (s20.D rfl (s20.D rfl s20.V)))))))
  |true=>
   rw[h1]at eC s20;refine fY (t:=true) (s20.I (x:=.tmp 61) rfl) (cT ?_);rw[aHd];have pP:=aFi (l:=vs) (k:=dp st) (nm:=eI st) (ar:=dG st) (by
    rw[<-Zt];intro h;rw[h]at h1;cases h1)
   rw[<-Zt,hB.j]at pP;rcases Oe.e with⟨mJ,_⟩ | ⟨mJ,off,cap,arr,IF,It,aMG,NP,gG⟩
   ·omega
   obtain⟨i,NL⟩:∃i:Nat,ef.1=(i:Int):=⟨ef.1.toNat,ab⟩
   refine df aGm s20 av rfl λa21 s21=>df aGn s21 av rfl λa22 s22=>df aGo s22 av rfl λa23 s23=>ail aGp s23 av rfl rfl λa24 s24=> ?_;refine ru aW aGq s24 av rfl rfl (dh some IF) rfl pP.1 ab λa25 s25=> ?_;rw[NL,dE,show off+i*(aJ 4).a=off+i by show off+i*1=_;omega]at s25;refine ui aW aGr s25 rfl rfl rfl rfl rfl rfl It ab λw5 akZ=> ?_;refine eC a25 w5 ?_ ?_ (s25.D rfl (s25.D rfl (s25.D rfl (s25.D rfl (s25.D rfl (s25.D rfl (s25.D rfl s25.V)))))))
   ·exact cw.MK (Zw.I λ_ h=>h.elim) (sY akZ) (.inl ⟨mJ,rfl⟩)
   ·show nf w5 bv hb k (row.set ef.1.toNat (.p (ef.2==1)));rw[NL,dE];refine⟨by rw[qN];exact Oe.d,λv hv=> ?_,.inr ⟨mJ,off,cap,_,IF,akZ.d It,by simp;exact aMG,NP,λj u hj=> ?_⟩⟩
    ·rcases Bx hv with hv |rfl
     ·exact Oe.f v hv
     ·rfl
    ·rw[tE];by_cases gH:i=j
     ·subst gH;rw[By]at hj;simp only[if_pos]at hj;split at hj
      ·cases hj;rw[EE (by simp;omega)];rfl
      ·cases hj
     ·rw[vf gH]at hj;rw[vf ab];simpa using gG j u hj
end
section
variable{wB:World}{O:Nat->Prop}{nm:List UInt8}{ps:List aa}{rs:Int}{bo:List aa}{ct:Int}{cs:List Value}{fb:Nat}{lv:Value}{vs:List aa}{k N kn:Nat}{Q:Exit->Act->World->Prop}
variable{y:Value}{b0:Nat}{bs:List Nat}{sb wb:Nat}
def aHt(hB:zc wB O nm ps rs bo ct cs fb lv vs k N){ws:List Int}(st:iH wB k N y b0 bs sb a x wb w)(hw:a.c=p::ws)(hU:nc a<=1000000)
  (hs:bM 101 [(1,lv),(2,.pointer (some ⟨fb,0,none⟩)),(5,y),(6,.slice (some ⟨sb,0,none⟩) N N),(7,x)] act)
  (eC:∀tV w' x' wb',iH wB k N y b0 bs sb (HB (aG nm ps rs bo ct) vs bo ct p ws a) x' wb' w'->bM 101 (Eg lv fb y sb N x') tV->Q .normal tV w'):
  (Code.block 1 (.seq (.region 8 (aT 8) false) (.seq (.region 9 (aT 9) false) (.seq (.region 10 (aT 10) false) (.seq MN (.seq (.region 16 (aT 16) false) (.seq (.region 17 (aT 17) false) (.block 2 (.loop ML))))))))).wpIn Fence.wide kn prog Q act w:=by
 have hp:=st.s p (by rw[hw];simp);have jQ:=hB.g;have q5:∀c,O c->c<wB.heap.size:=hB.a.a;obtain⟨off,cap,arr,hx,sc,aNq,ak0,pf⟩:=st.o.a;rw[hw]at hx ak0 pf;simp only[eM]at hx ak0;obtain⟨c,rfl⟩:∃c,cap=c+1:=⟨cap-1,ab⟩
 have gG:w.cell? ⟨wb,off,none⟩=some (.int .i64 p):=by simp only[World.cell?,sc];exact pf 0 p rfl
 refine lx (b8 (cT ?_));rw[aG8];refine df aFQ hs av rfl λa1 s1=> ?_;refine ru aW aFR s1 av rfl rfl (dh some hx) rfl (j1 0) ab λa2 s2=> ?_;rw[show off+Int.toNat 0*(aJ 3).a=off by show off+0*1=_;omega]at s2;refine sK aW aFS s2 av rfl rfl rfl gG λa3 s3=>iT aFT s3 av rfl λa4 s4=> ?_;show Code.wpIn Fence.wide kn prog _ _ a4 w;refine b8 (cT ?_);rw[aG9];refine df aFU s4 av rfl λa5 s5=>aE' aW aFV s5 av rfl rfl rfl (dh some hx) ab λa6 s6=>iT aFW s6 av rfl λa7 s7=> ?_;obtain⟨x',hx'⟩:∃x',x'=Value.slice (some ⟨wb,bif c==0 then off else off+1,none⟩) ws.length c:=⟨_,rfl⟩
 rw[<-hx']at s7;have hW:tq w x' wb ws:=by
  refine⟨_,c,arr,hx',sc,?_,ab,λi n hi=> ?_⟩
  ·cases h:c==0 with
   |true=>show off+c<=_;omega
   |false=>show off+1+c<=_;omega
  ·have jO:=(List.getElem?_eq_some_iff.1 hi).1;have h0:(c==0)=false:=by
    cases h:c==0 with
    |true=>have:=eq_of_beq h;omega
    |false=>rfl
   rw[h0];have:=pf (i+1) n hi;rwa[show off+(i+1)=off+1+i from ab]at this
 have st1:iH wB k N y b0 bs sb ⟨a.a,a.b,ws⟩ x' wb w:=st.U cw.V hW (.inl rfl) λq hq=>st.s q (by rw[hw];simp[hq]);have Ob:nc ⟨a.a,a.b,ws⟩<=1000000:=by
  have e1:nc a=js a.a+gn a.b+a.c.length:=rfl;have e2:nc ⟨a.a,a.b,ws⟩=js a.a+gn a.b+ws.length:=rfl;have e3:a.c.length=ws.length+1:=by rw[hw];rfl
  omega
 show Code.wpIn Fence.wide kn prog _ _ a7 w;refine b8 (cT ?_);rw[aG_];obtain⟨pn,aMH⟩:∃pn:Nat,p=(pn:Int):=⟨p.toNat,ab⟩
 have aMI:pn<N:=ab;have j6:bs.length=N:=st.f.c.trans st.g;obtain⟨bp,Zx⟩:∃bp,bs[pn]? =some bp:=⟨_,cV ab⟩
 have Cj:=eg Zx;have il:a.a[pn]? =some (a.a.getD pn .m):=by rw[dD,cV (by rw[st.g];exact aMI)];rfl
 obtain⟨l,xG,tU⟩:=st.f.d pn bp _ Zx il;have hy:y=.slice (some ⟨b0,0,none⟩) N N:=by rw[st.f.f,st.g]
 have Zn:w.cell? ⟨b0,pn,none⟩=some (wZ k bp):=by simp only[World.cell?,st.f.a];rw[tE,fX,Zx];rfl
 have N':=st.D;have Oa:=st.j;obtain⟨S0,Zy⟩:∃S:Nat->Prop,S=λc=>O c\/(wB.heap.size<=c/\c<w.heap.size/\c≠bp):=⟨_,rfl⟩
 have EP:gj aJ cO S0 w:=Ee hB.a st.d (λc h=>by
  rw[Zy]at h;rcases h with h |h
  ·exact .inl h
  ·exact .inr h.1) λc h=>by
  rw[Zy]at h;rcases h with h |h
  ·exact dJ (q5 c h) st.d.d
  ·exact h.2.1
 refine df aFX s7 av rfl λa8 s8=>df aFY s8 av rfl λa9 s9=> ?_;refine ru aW aFZ s9 av rfl rfl (dh some hy) (dh (λz=>some (Value.int .i64 z)) aMH) (rR pn) ab λa10 s10=> ?_;rw[dE,show 0+pn*(aJ 170).a=pn by show 0+pn*1=_;omega]at s10;refine sK aW aF0 s10 av rfl rfl rfl Zn λa11 s11=> ?_;refine oG aF1 s11 Xa (vs:=[wZ k bp]) (by simp[s11.I (x:=.tmp 44) rfl]) (aFo (kn:=kn-1) EP tU (λh=>by
  rw[Zy]at h;rcases h with h |h
  ·have:=q5 _ h;have:=Oa bp (by simp[Cj]);omega
  ·exact h.2.2 rfl) (by have:=hB.f;omega)) λe w1 ⟨bv,hb,he,fw,aMJ,E4⟩=>⟨bv,he,?_⟩
 have s12:=s11.U (d:=45) av bv;refine iT aF2 s12 av rfl λa13 s13=> ?_;show Code.wpIn Fence.wide kn prog _ _ a13 w1;have st2:=st1.I fw;have ES:k≠0->hb∉wb::sb::b0::bs:=λh hm=>by have:=N' hb hm;have:=E4 h;omega
 have bE:=st.d.d;refine b8 (aHs hB st2.d aMJ (λh=>by have:=E4 h;omega) (s13.D rfl (s13.D rfl (s13.D rfl (s13.D rfl (s13.D rfl (s13.D rfl (s13.D rfl s13.V))))))) λa14 w2 dw Zz s14=> ?_);show Code.wpIn Fence.wide kn prog _ _ a14 w2;have st3:=st2.aHp dw λb hb'=>by obtain⟨h1,rfl⟩:=hb';exact⟨by have:=E4 h1;omega,ES h1⟩
 obtain⟨beh,ak1⟩:∃beh,beh=Hz (aG nm ps rs bo ct) vs bo p l:=⟨_,rfl⟩
 rw[<-ak1]at Zz;refine b8 (cT ?_);rw[aHe];obtain⟨S,hS⟩:∃S:Nat->Prop,S=λc=>O c\/(wB.heap.size<=c/\c<w2.heap.size):=⟨_,rfl⟩
 have E5:∀c,S c->O c\/wB.heap.size<=c:=λc h=>by
  rw[hS]at h;rcases h with h |h
  ·exact .inl h
  ·exact .inr h.1
 have hg:gj aJ cO S w2:=Ee hB.a st3.d E5 λc h=>by
  rw[hS]at h;rcases h with h |h
  ·exact dJ (q5 c h) st3.d.d
  ·exact h.2
 have Ce:=MM (st3.d.a fb hB.D λh=>h) hB.e;refine C1 aW aGs s14 av rfl rfl rfl Ce hB.d λa15 s15=>df aGt s15 av rfl λa16 s16=> ?_;obtain⟨nx,pY⟩:∃nx,nx=(ti (aG nm ps rs bo ct) bo ct p).1:=⟨_,rfl⟩
 refine oG aGu s16 aiA (vs:=[.agg cs.toArray,.int .i64 p]) (by simp[s16.I (x:=.tmp 68) rfl,s16.I (x:=.tmp 69) rfl]) (MJ (kn:=kn-1) aDu aiA (args:=[aG nm ps rs bo ct,.c .i64 p]) rfl rfl hg ⟨_,_,rfl,Ef st3.d E5 hB.i,_,[],rfl,rfl,rfl⟩) λe w3 ⟨y3,he,j3,nu⟩=>⟨y3,he,?_⟩
 obtain⟨ar3,rfl,nv,t0,f0,zJ,e3,t1,f1,ZA,f2⟩:=nu;have ZA:e3=.int .i64 _:=ZA;have f2:t1=[]:=f2;subst f2 f1 ZA;rw[<-pY]at zJ;have k0:ar3[0]? =some nv:=by rw[<-fu,f0];rfl
 have k1:ar3[1]? =some (.int .i64 (ti (aG nm ps rs bo ct) bo ct p).2):=by rw[<-fu,f0];rfl
 have s17:=s16.U (d:=70) av (Value.tuple ar3);refine df aGv s17 av rfl λa18 s18=>Ed aGw s18 av rfl k0 λa19 s19=>Ed aGx s19 av rfl k1 λa20 s20=>iT aGy s20 av rfl λa21 s21=>iT aGz s21 av rfl λa22 s22=> ?_;show Code.wpIn Fence.wide kn prog _ _ a22 w3;refine b8 (cT ?_);rw[aHf];obtain⟨ad,ak2,ZB,_,aMK⟩:=zJ;refine df aGA s22 av rfl λa23 s23=>Ag aW aGB s23 av rfl (dh some ZB) λa24 s24=>df aGC s24 av rfl λa25 s25=> ?_;show Code.wpIn Fence.wide kn prog _ _ a25 w3;have st4:=st3.I j3;have aML:=st3.D;have Zr:nf w3 bv hb k beh:=Zz.D λh=>j3.a hb (Zz.I h) λh=>h;have pP:∀q∈nx,pJ ct q:=by rw[pY];exact ais hB.b hp.1 ab
 have N9:nx.length<=2:=by rw[pY];exact aFh hB.b hp.1 ab
 refine aHq hB Zr (λh=>⟨ES h,by have:=E4 h;omega⟩) pP ?_ ab st4 Ob (s25.D rfl (s25.D rfl (s25.D rfl (s25.D rfl (s25.D rfl (s25.D rfl (s25.D rfl (s25.D rfl (s25.D rfl s25.V))))))))) λa26 w4 x4 wb4 st5 s26=> ?_
 ·rcases aMK with h | ⟨nb,no,rfl,pc,aMM,jw⟩
  ·subst h;exact .inl ⟨rfl,ad,ak2,ZB⟩
  ·refine .inr ⟨nb,no,ak2,ZB,λhm=>aMM ?_,pc,aiu _ _ jw⟩;rw[hS];exact .inr ⟨st4.j nb hm,aML nb hm⟩
 ·refine eC a26 w4 x4 wb4 ?_ s26;have:HB (aG nm ps rs bo ct) vs bo ct p ws a=rN beh nx ⟨a.a,a.b,ws⟩:=by unfold HB;have e1:p.toNat=pn:=ab;rw[e1,xG,ak1,pY];rfl
  rw[this];exact st5
end
def aHu(ad:Option Addr)(n c:Nat):Program.built prog 34 [(0,.slice ad n c)]=some #[.slice ad n c]:=ae
section
variable{w:World}{a:Act}{N:Nat}{l:lJ}{ops:Array Oper}{kn:Nat}{Q:Exit->Act->World->Prop}{j:Nat}{ls:List Nat}{o:Oper}
def aHv{x}{d:Nat}{ad:Option Addr}{c:Nat}(ho:gB ops j o (.build 34 #[(0,x)]) (some d))(hs:bM N l a)(hN:d<N)(hx:eW l x=some (.slice ad n c))
  (h:∀a',bM N ((d,.agg #[.slice ad n c])::l) a'->wpOpsIn Fence.wide kn prog ops Q ls a' w):wpOpsIn Fence.wide kn prog ops Q (j::ls) a w:=by
 refine lK ho hs hN ?_ h;have hb:=run_build (P:=prog) w 34 #[(0,.slice ad n c)] #[.slice ad n c] (aHu ad n c);have e:(#[(0,x)].map λ(p:Nat×Operand)=>(p.1,a.eval p.2))= #[(0,Value.slice ad n c)]:=by rw[<-hs.I hx];simp
 simp only[execOp,ho.a];rw[e];simp[hb]
end
section
variable{wB:World}{O:Nat->Prop}{nm:List UInt8}{ps:List aa}{rs:Int}{bo:List aa}{ct:Int}{cs:List Value}{fb:Nat}{lv:Value}{vs:List aa}{k N kn:Nat}{R:Ending->World->Prop}
variable{y:Value}{b0:Nat}{bs:List Nat}{sb:Nat}
def aHw(hB:zc wB O nm ps rs bo ct cs fb lv vs k N){wb:Nat}(st:iH wB k N y b0 bs sb a x wb w)(hn:nc a<=n)(oh:n<=1000000)(hs:bM 101 (Eg lv fb y sb N x) act)
  (hR:∀w',cw eL wB w'->(∀b∈b0::bs,wB.heap.size<=b)->tp w' y b0 bs k (rO (aG nm ps rs bo ct) vs bo ct n a).a->R (.returned y) w'):
  (Code.block 0 (.loop (.seq (.seq (.region 7 (aT 7) false) (.cond (.tmp 35) .skip (.exit 0))) (.block 1 (.seq (.region 8 (aT 8) false) (.seq (.region 9 (aT 9) false) (.seq (.region 10 (aT 10) false) (.seq MN (.seq (.region 16 (aT 16) false) (.seq (.region 17 (aT 17) false) (.block 2 (.loop ML)))))))))))).wpIn Fence.wide kn prog (Exit.then ((Code.seq (.region 24 (aT 24) false) .ret).wpIn Fence.wide kn prog (bodyPost prog f99 R)) (bodyPost prog f99 R)) act w:=by
 refine lx (uc (λ(m:Nat) act w=>m<=n/\∃a' x' wb',iH wB k N y b0 bs sb a' x' wb' w/\nc a'<=m/\rO (aG nm ps rs bo ct) vs bo ct m a'=rO (aG nm ps rs bo ct) vs bo ct n a/\bM 101 (Eg lv fb y sb N x') act) id n ⟨bj _,a,x,wb,st,hn,rfl,hs⟩ ?_);rintro m act w ⟨hm,a1,x1,wb1,st1,hU,hA,s1⟩;have s1:bM 101 [(1,lv),(2,.pointer (some ⟨fb,0,none⟩)),(5,y),(6,.slice (some ⟨sb,0,none⟩) N N),(7,x1)] act:=s1;obtain⟨off,cap,arr,hx,_⟩:=st1.o.a;refine b8 (b8 (cT ?_));rw[aG7];refine df aFN s1 av rfl λa2 s2=>Ag aW aFO s2 av rfl (dh some hx) λa3 s3=>aE9 aFP s3 av rfl rfl λa4 s4=> ?_;show Code.wpIn Fence.wide kn prog _ _ a4 w;cases hw:a1.c with
 |nil=>
  have h8:a4.eval (.tmp 35)=.bool false:=by rw[s4.I (x:=.tmp 35) rfl,hw];rfl
  refine fY (t:=false) h8 (qL ?_);show Code.wpIn Fence.wide kn prog _ _ a4 w;refine b8 (cT ?_);rw[aHm];refine df aGZ s4 av rfl λa5 s5=>iT aG0 s5 av rfl λa6 s6=> ?_;show Code.ret.wpIn Fence.wide kn prog _ a6 w;refine vd ⟨s6.f,y,?_,hR w st1.d (λb hb=>st1.j b (by simp only[jc]at hb⊢;rcases hb with h |h<;>simp[h])) ?_⟩
  ·rw[Nh aHn,s6.b 4 _ rfl]
  ·rw[<-hA,aFg _ _ _ _ _ _ hw];exact st1.f
 |cons p ws=>
  have h8:a4.eval (.tmp 35)=.bool true:=by rw[s4.I (x:=.tmp 35) rfl,hw];exact dh Value.bool (aD aB)
  have Ob:nc a1=js a1.a+gn a1.b+a1.c.length:=rfl;have N':a1.c.length=ws.length+1:=by rw[hw];rfl
  obtain⟨m',rfl⟩:∃m',m=m'+1:=⟨m-1,ab⟩
  refine fY (t:=true) h8 (nj ?_);refine aHt hB st1 hw ab (s4.D rfl (s4.D rfl (s4.D rfl (s4.D rfl (s4.D rfl s4.V))))) λa' w' x' wb' st' s'=>⟨m',⟨ab,_,x',wb',st',?_,?_,s'⟩,zp _⟩
  ·have hp:=st1.s p (by rw[hw];simp);have jQ:=hB.g;have:nc (HB (aG nm ps rs bo ct) vs bo ct p ws a1)<=nc ⟨a1.a,a1.b,ws⟩:=air _ _ λq hq=>by obtain⟨_,h1,h2⟩:=ais hB.b hp.1 ab q hq;have e1:(⟨a1.a,a1.b,ws⟩:iY).a.length=N:=st1.g;have e2:(⟨a1.a,a1.b,ws⟩:iY).b.length=N:=st1.m;omega
   have e2:nc ⟨a1.a,a1.b,ws⟩=js a1.a+gn a1.b+ws.length:=rfl;omega
  ·rw[<-aFf _ _ _ _ _ _ hw];exact hA
def aHx(l):gn l<=l.length:=ajp
def aHy{fv}(hg:gj aJ cO O w0)(hf:ax aJ w0 O (aG nm ps rs bo ct) bh fv)(hl:ax aJ w0 O (.d 72 vs) bh lv)(hp:bF [aG nm ps rs bo ct]=true)(gU:vs.length<=50):
  CallsIn Fence.wide kn prog 99 #[fv,lv] w0 λe w'=>∃y b0 bs,e=.returned y/\cw eL w0 w'/\(∀b∈b0::bs,w0.heap.size<=b)/\tp w' y b0 bs vs.length (D9 (aG nm ps rs bo ct) vs bo ct):=by
 obtain⟨_,aNr,_,aNs,_⟩:=n9 (mv hp);obtain⟨N,hN⟩:∃N:Nat,ct+1=(N:Int):=⟨(ba 20 [] bo).length+1,ab⟩
 have aNt:0<N:=ab;have ZC:N<=1000:=ab;obtain⟨cs,fE,hlen,Zs⟩:∃cs:List Value,fv=.agg cs.toArray/\cs.length=5/\cs[4]? =some (.int .i64 ct):=by
  obtain⟨ar,rfl,c0,t0,r0,h0,c1,t1,r1,h1,c2,t2,r2,h2,c3,t3,r3,h3,c4,t4,r4,h4,h5⟩:=hf;have h4:c4=.int .i64 ct:=h4;have h5:t4=[]:=h5;refine⟨ar.toList,rfl,?_,?_⟩<;>rw[r0,r1,r2,r3,r4,h5]
  ·rfl
  ·rw[h4];rfl
 subst fE;refine BC func99 aFq trivial ?_;rw[aFr];have s0:bM 101 [(0,.agg cs.toArray),(1,lv)] _:=FX (vs:=[.agg cs.toArray,lv]) aB;refine b8 (cT ?_);rw[aG1];refine ah3 aFs s0 av rfl λa1 s1=>iT aFt s1 av rfl λa2 s2=> ?_;obtain⟨w1,iM⟩:∃w1,w1=w0.alloc (.cells (Value.agg cs.toArray).cells 43):=⟨_,rfl⟩
 rw[<-iM];have fw:cw eL w0 w1:=by rw[iM];exact uW _
 have o8:w1.heap[w0.heap.size]? =some (.cells cs.toArray 43 (0,0)):=by rw[iM];exact ji w0 _
 have NY:dH w1 w0.heap.size 0 cs:=λj u hj=>by simp only[World.cell?,o8];show cs.toArray[0+j]? =_;rw[show 0+j=j from ab,tE];exact hj
 show Code.wpIn Fence.wide kn prog _ _ a2 w1;refine b8 (b8 (cT ?_));rw[aG2];refine C1 aW aFu s2 av rfl rfl rfl NY hlen λa3 s3=> ?_;refine W8 aW aFv s3 av rfl rfl rfl (show cs.toArray.size=5 by simp[hlen]) λa4 s4=> ?_;obtain⟨w2,mI⟩:∃w2,w2=w1.alloc (.cells (Value.agg cs.toArray).cells 43):=⟨_,rfl⟩
 rw[<-mI];have dw:cw eL w0 w2:=by rw[mI];exact fw.D (uW _)
 have eT:w2.heap[w1.heap.size]? =some (.cells cs.toArray 43 (0,0)):=by rw[mI];exact ji w1 _
 have q5:∀c,O c->c<w0.heap.size:=hg.a;have B7:∀c,O c->O c\/w0.heap.size<=c:=λc h=>.inl h;have xl:gj aJ cO O w2:=Ee hg dw B7 λc h=>dJ (q5 c h) dw.d;refine aHv aFw s4 av rfl λa5 s5=> ?_;have Ca:bN aJ w2 O [aG nm ps rs bo ct] 43 w1.heap.size 0:=⟨⟨rfl,rfl⟩,⟨cs,hlen,λj u hj=>by
  simp only[World.cell?,eT];show cs.toArray[0+j]? =_;rw[show 0+j=j from ab,tE];exact hj,Ef dw B7 hf⟩,trivial⟩
 refine oG aFx s5 aiB (vs:=[.agg #[.slice (some ⟨w1.heap.size,0,none⟩) 1 1]]) (by simp[s5.I (x:=.tmp 20) rfl]) (MJ (kn:=kn-1) yJ aiB (args:=[.u [.d 43 [aG nm ps rs bo ct]]]) rfl rfl xl ⟨_,[],rfl,⟨_,rfl,_,[],rfl,⟨_,1,rfl,bj _,.inr ⟨w1.heap.size,0,rfl,mY eT,λh=>by
  have:=q5 _ h;have:=fw.d;omega,Ca⟩⟩,rfl⟩,rfl⟩) λe w3 ⟨y3,he,j3,nu⟩=>⟨y3,he,?_⟩
 have nu:y3=.int .i64 (eY (bF [aG nm ps rs bo ct])):=nu;rw[hp]at nu;have nu:y3=.int .i64 0:=nu;subst nu;have E7:=dw.D j3;have s6:=s5.U (d:=21) av (Value.int .i64 0);refine aim aFy s6 av rfl rfl λa7 s7=> ?_;show Code.wpIn Fence.wide kn prog _ _ a7 w3;refine fY (t:=false) (s7.I (x:=.tmp 22) rfl) (nj ?_);show Code.wpIn Fence.wide kn prog _ _ a7 w3;have BQ:gj aJ cO O w3:=Ee hg E7 B7 λc h=>dJ (q5 c h) E7.d;have aMN:w0.heap.size<w1.heap.size:=mY o8;have aMO:cw eL w1 w3:=cw.D (by rw[mI];exact uW _) j3;have ZD:=MM (aMO.a _ aMN λh=>h) NY;have H0:ax aJ w3 O (aG nm ps rs bo ct) bh (.agg cs.toArray):=Ef E7 B7 hf;have Od:ax aJ w3 O (.d 72 vs) bh lv:=Ef E7 B7 hl;have hB:zc w3 O nm ps rs bo ct cs w0.heap.size lv vs vs.length N:=⟨BQ,H0,hlen,ZD,Od,hp,rfl,gU,hN,ZC⟩
 refine b8 (cT ?_);rw[aG3];refine C1 aW aFz s7 av rfl rfl rfl ZD hlen λa8 s8=>df aFA s8 av rfl λa9 s9=> ?_;refine oG aFB s9 aFm (vs:=[.agg cs.toArray,lv]) (by simp[s9.I (x:=.tmp 23) rfl,s9.I (x:=.tmp 24) rfl]) (aE8 (kn:=kn-1) rfl ab hN ZC H0 Od) λe w4 ⟨y,b0,bs,he,ZE,de,ak3⟩=>⟨y,he,?_⟩
 have s10:=s9.U (d:=25) av y;refine iT aFC s10 av rfl λa11 s11=> ?_;show Code.wpIn Fence.wide kn prog _ _ a11 w4;refine b8 (cT ?_);rw[aG4];have HX:w4.cell? ⟨w0.heap.size,4,none⟩=some (.int .i64 ct):=by have:=MM (ZE.a _ hB.D λh=>h) ZD 4 _ Zs;exact this
 refine CY aW aFD s11 av rfl rfl rfl λa12 s12=>sK aW aFE s12 av rfl rfl rfl HX λa13 s13=>yl aFF s13 av rfl rfl λa14 s14=> ?_;rw[ep ab ab,hN]at s14;refine aD_ aW aFG s14 av rfl rfl rfl (by unfold eU;omega) λa15 s15=>iT aFH s15 av rfl λa16 s16=> ?_;obtain⟨sb,nk⟩:∃sb,sb=w4.heap.size:=⟨_,rfl⟩
 rw[<-nk]at s16;obtain⟨w5,Of⟩:∃w5,w5=w4.alloc (.cells (List.replicate N (Value.bool false)).toArray 4):=⟨_,rfl⟩
 rw[<-Of];have II:cw eL w4 w5:=by rw[Of];exact uW _
 have r8:w5.heap[sb]? =some (.cells (List.replicate N (Value.bool false)).toArray 4 (0,0)):=by rw[Of,nk];exact ji w4 _
 show Code.wpIn Fence.wide kn prog _ _ a16 w5;refine b8 (cT ?_);rw[aG5];refine df aFI s16 av rfl λa17 s17=>ru aW aFJ s17 av rfl rfl rfl rfl (j1 0) ab λa18 s18=> ?_;rw[show 0+Int.toNat 0*(aJ 4).a=0 by rfl]at s18;refine ui aW aFK s18 rfl rfl rfl rfl rfl rfl r8 (by simp;omega) λw6 Og=> ?_;show Code.wpIn Fence.wide kn prog _ _ a18 w6;refine b8 (b8 (cT ?_));rw[aG6];refine W8 aW aFL s18 av rfl rfl rfl rfl λa19 s19=>iT aFM s19 av rfl λa20 s20=> ?_;obtain⟨wb,sc⟩:∃wb,wb=w6.heap.size:=⟨_,rfl⟩
 rw[<-sc]at s20;obtain⟨w7,ZF⟩:∃w7,w7=w6.alloc (.cells (Value.int .i64 0).cells 3):=⟨_,rfl⟩
 rw[<-ZF];have ZG:cw eL w6 w7:=by rw[ZF];exact uW _
 have aMP:w7.heap[wb]? =some (.cells #[.int .i64 0] 3 (0,0)):=by rw[ZF,sc];exact ji w6 _
 have aL_:=ZE.d;have YZ:w5.heap.size=sb+1:=by rw[Of,nk];simp
 have aNu:=Og.a;have aMQ:cw eL w3 w7:=((ZE.D II).U (sY Og) ab).D ZG;have aMR:∀b,b<w4.heap.size->w7.heap[b]? =w4.heap[b]? :=λb hb=>(ZG.a b ab λh=>h).trans ((Og.f b ab).trans (II.a b hb λh=>h));have jQ:(ct+1).toNat=N:=ab;obtain⟨a0,sa⟩:∃a0:iY,a0=⟨qG vs ct,(List.replicate (ct+1).toNat (.p false)).set 0 (.p true),[0]⟩:=⟨_,rfl⟩
 have j6:(qG vs ct).length=N:=by unfold qG;simp;omega
 have st:iH w3 vs.length N y b0 bs sb a0 (.slice (some ⟨wb,0,none⟩) 1 1) wb w7:=by
  rw[sa];refine⟨ak3.D λb hb=>aMR b (de b hb).2,j6,?_,by simp;omega,λv hv=> ?_,⟨0,1,_,rfl,aMP,aB,aB,λi n hi=> ?_⟩,λp hp=> ?_,?_,λb hb=> ?_,aMQ⟩
  ·rw[ZG.a sb ab λh=>h,Og.d r8,jQ];have:(List.replicate N (Value.bool false)).set 0 (.bool true)=lU ((List.replicate N (.p false)).set 0 (.p true)):=by unfold lU;rw[List.map_set,List.map_replicate];rfl
   show some (Obj.cells (((List.replicate N (Value.bool false)).set 0 (.bool true))).toArray _ _)=_;rw[this]
  ·rcases Bx hv with hv |rfl
   ·rw[(List.mem_replicate.1 hv).2];rfl
   ·rfl
  ·cases i with
   |zero=>cases hi;rfl
   |succ i=>cases hi
  ·rw[List.mem_singleton.1 hp];omega
  ·refine List.nodup_cons.2 ⟨λh=> ?_,List.nodup_cons.2 ⟨λh=> ?_,ak3.g⟩⟩
   ·rcases List.mem_cons.1 h with h |h
    ·omega
    ·have:=(de wb h).2;omega
   ·have:=(de sb h).2;omega
  ·rcases List.mem_cons.1 hb with rfl |hb
   ·omega
   ·rcases List.mem_cons.1 hb with rfl |hb
    ·omega
    ·exact(de b hb).1
 show Code.wpIn Fence.wide kn prog _ _ a20 w7;have vB:=E7.d;have aMS:=aFe vs ct;have hmul:N*vs.length<=1000*50:=zl ZC gU;have aNv:N*(vs.length+1)=N*vs.length+N:=Nat.mul_succ _ _;refine aHw hB (n:=(ct+1).toNat*(vs.length+1)+1) st ?_ ?_ (s20.D rfl (s20.D rfl (s20.D rfl (s20.D rfl (s20.D rfl s20.V))))) λw' h1 h2 h3=>⟨y,b0,bs,rfl,E7.D h1,λb hb=>by have:=h2 b hb;omega,?_⟩
 ·rw[sa,jQ];rw[jQ]at aMS;show js (qG vs ct)+gn ((List.replicate N (.p false)).set 0 (.p true))+1<=_;have:=aHx ((List.replicate N (.p false)).set 0 (.p true));rw[qN,vg]at this;omega
 ·rw[jQ];omega
 ·rw[sa]at h3;exact h3
end
def aHz:∀args w,(callFunc 99 args).run prog w=.ok (.enter 99 args) w:=by obtain⟨c,hc⟩:=Option.isSome_iff_exists.1 (show f99.body.isSome=true from ae);exact qh func99 ae hc
def aHA{b0:Nat}(h:tp w y b0 bs k M)(hO:∀b∈bs,¬O b):bN aJ w O M 170 b0 0:=by
 have key:∀(r p:List aa),M=p++r->bN aJ w O r 170 b0 p.length:=by
  intro r;induction r with
  |nil=>intro _ _;trivial
  |cons v r ih=>
   intro p hp;have cC:p.length<M.length:=by rw[hp];simp
   have hv:M[p.length]? =some v:=by rw[hp];simp
   have hb:bs[p.length]? =some bs[p.length]! :=by rw[List.getElem!_eq_getElem?_getD,cV (by rw[h.c];exact cC)];rfl
   obtain⟨l,rfl,hr⟩:=h.d _ _ v hb hv;refine⟨⟨rfl,rfl⟩,⟨[wZ k bs[p.length]!],rfl,uO ?_,aiC hr (hO _ (eg hb))⟩,?_⟩
   ·simp only[World.cell?,h.a];rw[tE,fX,hb];rfl
   ·have:=ih (p++ [.d 4 l]) (by rw[hp];simp);rw[eG]at this;exact this
 exact key M [] rfl
def aHB:aH 99 WY:=by
 intro args ao out he iL Z β w bk cx hr;unfold WY at he;split at he
 ·rename_i nm ps rs bo ct vs;obtain⟨h1,h2⟩:=aO he;cases h2;rw[au,bC]at h1;obtain⟨hp,hk⟩:=h1;have hg:gj aJ cO Z w:=⟨cx.m,λg=>by have:=cx.n g;rwa[Ah]at this⟩
  obtain⟨fv,t0,e0,hf,lv,t1,e1,hl,e2⟩:=hr;have e2:t1=[]:=e2;subst e2 e1;have hc:bk= #[fv,lv]:=Array.toList_inj.1 e0;subst hc;have hf:=q9 hf rfl;have hl:=q9 hl rfl;rw[Ah]at hf hl;refine .inl ⟨aHz _ _,callsIn_wide.1 ((aHy (kn:=0) hg hf hl hp hk).mono λe w' ⟨y,b0,bs,he,hc,de,hm⟩=> ?_)⟩;subst he;have hk:cz w w' Z Z:=rC hc λc h=>.inl h;have hZ:∀b∈b0::bs,¬Z b:=λb hb h=>by have:=de b hb;have:=cx.m b h;omega
  have nm:∀i,¬cQ (Go.AH.a_ []) β i:=λi mi=>by have:=mi.1;rw[show Go.AH.a_ [] i=.c by cases i<;>rfl]at this;cases this
  refine⟨_,[],β,rfl,(hg.D hk λb h=>dJ (cx.m b h) hc.d).I β,⟨hc.f,hc.i,hc.j,hc.d,λb hb _=>hc.a b hb λh=>h,λi mi=>absurd mi (nm i),λi hi=>absurd hi (BD i)⟩,?_⟩;rw[Ah];exact⟨_,_,hm.f,bj _,.inr ⟨b0,0,rfl,mY hm.a,hZ b0 aB,aHA hm λb hb=>hZ b (by simp[hb])⟩⟩
 ·cases he
def Bj:FuncId->aq:=aL [(27,wz),(99,WY),(100,WX),(53,DY)]
def aiJ(vs M us no len i):(cB (ay gD Bj ur aK) 4 9 (cq ur 1) [.e 1 0,.e 2 0,.e 3 0,ah no,.d 3 us,ah len,ah i] [az [.d 72 vs],az [ah 0],az [ah 0],az [.d 170 M]]).D=((letI ai:=us.getD i.toNat .m;letI ak:=M.getD no.toNat .m;letI aw:List aj:=[az [.d 72 vs],cu 0,cu 0,az [.d 170 M]];af.c (decide (i<len)) (.c (decide (0<=i) &&decide (i<(↑us.length:Int))) (.c (decide (0<=no) &&decide (no<(↑M.length:Int))) (.c (decide (0<=ai.I) &&decide (ai.I<(↑ak.U.length:Int))) (.c (!(ak.U.getD ai.I.toNat .m).b_) (.g ((.c,[.e 1 0,.e 2 0],[az [.d 72 vs],cu no,cu 13,az [.d 170 M]]))) (.g ((.b,[.e 1 0,.e 2 0,.e 3 0,ah no,.d 3 us,ah len,ah (i64.wrap (i+1))],aw)))) .d) .d) .d) (.g ((.a 2,[.e 1 0,.e 2 0],aw)))):af (aU×List aa×List aj)).D:=ae
def MO(M:List aa)(no:Int)(_:Unit)(u:aa):Unit⊕Unit:=bif !((M.getD no.toNat .m).U.getD u.I.toNat .m).b_ then .inl ()else .inr ()
def HC(M:List aa)(no:Int)(us:List aa):Bool:=match cR (MO M no) us ()with | .inl _=>true | .inr _=>false
def kV(k:Nat)(u:aa):Bool:=decide (0<=u.I) &&decide (u.I<(k:Int))
def w_(vs M:List aa)(a b:Int):List aj:=[.a false [.d 72 vs],.a false [.c .i64 a],.a false [.c .i64 b],.a false [.d 170 M]]
def aHC{us}{no:Int}(h0:0<=no)(h1:no<(M.length:Int))(hk:(M.getD no.toNat .m).U.length=k)(hu:us.all (kV k)=true)(hl:us.length<=bP):
  bw gD Bj ur 4 9 [.e 1 0,.e 2 0,.e 3 0,.c .i64 no,.d 3 us,.c .i64 (us.length:Int),.c .i64 0] (w_ vs M 0 0) (ml (λ_:Unit=>(.c,[.e 1 0,.e 2 0],w_ vs M no 13)) (λ_:Unit=>(.a 2,[.e 1 0,.e 2 0],w_ vs M 0 0)) (cR (MO M no) us ())):=by
 refine pz (rJ WO) 1 ae ae cv (λn _=> [.e 1 0,.e 2 0,.e 3 0,.c .i64 no,.d 3 us,.c .i64 (us.length:Int),.c .i64 n]) (λ_ _=>w_ vs M 0 0) (MO M no) _ _ (λ_ _=>True) us () trivial ?_ ?_
 ·intro n _ hn _;have hr:=ug hu hn;unfold kV at hr;refine oF (aiJ vs M us no (us.length:Int) n) (dB (mm hn) (dB (jk hn) (dB (by rw[aD h0,aD h1];rfl) (dB (by rw[hk];exact hr) (jl (λ_=>ke rfl rfl) λ_=>jI ?_ trivial)))));rw[mn hn hl];rfl
 ·intro _ _;have e:=aiJ vs M us no (us.length:Int) us.length;rw[mP]at e;exact⟨e,rfl⟩
def Xd:dk:=λm_ key vs os=>match vs,os with
 | [.e 1 0,.e 2 0,.e 3 0,.c .i64 no,.d 3 us,.c .i64 len,.c .i64 0],[.a false [.d 72 vs],.a false [.c .i64 0],.a false [.c .i64 0],.a false [.d 170 M]]=>
  .I (decide (len=(us.length:Int)) &&decide (0<=no) &&decide (no<(M.length:Int)) &&us.all (kV (M.getD no.toNat .m).U.length) &&decide (us.length<=bP) &&Nat.beq m_ 4 &&Nat.beq key 9) (.c (HC M no us) (.g (.c,[.e 1 0,.e 2 0],[.a false [.d 72 vs],.a false [.c .i64 no],.a false [.c .i64 13],.a false [.d 170 M]])) (.g (.a 2,[.e 1 0,.e 2 0],[.a false [.d 72 vs],.a false [.c .i64 0],.a false [.c .i64 0],.a false [.d 170 M]])))
 |_,_=>.d
def aHD:cJ gD Bj ur Xd:=by
 intro m_ key vs os r h;unfold Xd at h;split at h
 ·rename_i no us len vs M;obtain⟨h1,h2⟩:=aO h;simp only[au,bC,aNx]at h1;obtain⟨⟨⟨⟨⟨⟨rfl,h3⟩,h4⟩,h5⟩,h6⟩,rfl⟩,rfl⟩:=h1;have h8:=aHC (vs:=vs) h3 h4 rfl h5 h6;unfold HC at h2;cases hc:cR (MO M no) us ()<;>rw[hc]at h2 h8<;>cases h2<;>exact h8
 ·simp[af.D]at h
def aHE(vs M s):(vY gD Bj ur Xd 0 0 (.q [ah (bZ s),dV s]) [.e 0 0,.e 1 0,.e 2 0,.e 3 0] [az [.d 72 vs],az [ah 0],az [ah 0],az [.d 170 M]]).D=((letI ai:=tk vs (s.D 0).I (s.D 2).bJ (s.D 5).U;letI ak:=(↑ai.length:Int);letI aw:List aa:=[.e 0 0,.e 1 0,.e 2 0,.e 3 0];af.c (decide (vs.length<=100) &&decide ((s.D 5).U.length<=1000)) (.c (decide (ak=ak) &&decide (0<=bZ s) &&decide (bZ s<(↑M.length:Int)) &&ai.all (kV (M.getD (bZ s).toNat .m).U.length) &&decide (ai.length<=cg) &&Nat.beq 4 4 &&Nat.beq 9 9) (.c (HC M (bZ s) ai) (.g ((.c,aw,[az [.d 72 vs],cu (bZ s),cu 13,az [.d 170 M]]))) (.g ((.b,aw,[az [.d 72 vs],cu 0,cu 0,az [.d 170 M]])))) .d) .d):af (aU×List aa×List aj)).D:=ae
def Xe{k:Nat}:∀(x:List aa)(a:Nat×List aa),a.2.all (kV k)=true->a.1+x.length<=k->match cR rG x a with | .inl _=>True | .inr b=>b.2.all (kV k)=true
 | [],a,h,_=>h
 |v::r,a,h,hk=>by
  rw[eM]at hk;rw[cR];unfold rG;cases decide (v.I>0)with
  |true=>refine Xe r (a.1+1,a.2++ [.c .i64 a.1]) ?_ (by show a.1+1+r.length<=k;omega);show(a.2++ [aa.c .i64 (a.1:Int)]).all (kV k)=true;rw[Np,h,ja,Nb];unfold kV;rw[show(aa.c .i64 (a.1:Int)).I=(a.1:Int)from rfl,aD (show(0:Int)<=(a.1:Int)from ab),aD (show(a.1:Int)<(k:Int)from ab)];rfl
  |false=>exact Xe r (a.1+1,a.2) h (by show a.1+1+r.length<=k;omega)
def aHF(l e):(pG l e).all (kV l.length)=true:=by
 unfold pG;cases eY (lM e) !=0 with
 |true=>rfl
 |false=>show(tg (km l 20 e (List.replicate (l.length:Int).toNat (.c .i64 0)))).all _=true;have hlen:=(Hg l 20 e (List.replicate (l.length:Int).toNat (.c .i64 0))).trans (by rw[vg,dE]:_=l.length);have h:=Xe (k:=l.length) (km l 20 e (List.replicate (l.length:Int).toNat (.c .i64 0))) (0,[]) rfl (by show 0+_<=_;omega);unfold tg;obtain⟨b,hb⟩:=Hh (km l 20 e (List.replicate (l.length:Int).toNat (.c .i64 0))) (0,[]);rw[hb]at h⊢;exact h
def aiK(l):∀(r x:List aa),x.all (kV l.length)=true->(kq l r x).all (kV l.length)=true
 | [],x,h=>h
 |e::r,x,h=>by rw[kq];refine aiK l r _ ?_;rw[Np,h,aHF];rfl
def aHG(l)(k:Int)(nm ar):(D8 l k nm ar).all (kV l.length)=true:=by
 have h:=aiK l ar [] rfl;unfold D8;cases hf:bc (dz nm) l 0 with
 |none=>exact h
 |some j=>
  show(bif k==3 then kq l ar []++ [.c .i64 (gm (some j))]else kq l ar []).all (kV l.length)=true;cases k==3 with
  |false=>exact h
  |true=>show(kq l ar []++ [aa.c .i64 (gm (some j))]).all (kV l.length)=true;have:=(W9 l 0 j hf).2;rw[Np,h,ja,Nb];unfold kV;rw[show(aa.c .i64 (gm (some j))).I=(j:Int)from rfl,aD (show(0:Int)<=(j:Int)from ab),aD (show(j:Int)<(l.length:Int)from ab)];rfl
def aHH{x}(h:x.all (kV k)=true):(ko x).all (kV k)=true:=by rw[dS]at h⊢;intro u hu;rw[Hu]at hu;obtain⟨n,hn,rfl⟩:=List.mem_map.1 hu;rw[List.mem_mergeSort]at hn;obtain⟨v,hv,rfl⟩:=List.mem_map.1 hn;exact h v hv
def aHI{x}(h:x.all (kV k)=true):(fC x).all (kV k)=true:=by rw[dS]at h⊢;intro u hu;unfold fC at hu;obtain⟨n,hn,rfl⟩:=List.mem_map.1 hu;obtain⟨v,hv,rfl⟩:=List.mem_map.1 (ahu hn);exact h v hv
def aHJ(l)(k:Int)(nm ar):(tk l k nm ar).all (kV l.length)=true:=aHI (aHH (aHG l k nm ar))
def aHK(hl:l.length<=100)(k:Int)(nm)(ha:ar.length<=1000):(tk l k nm ar).length<=200000:=by
 have hu:=WU l ar [];have hm:ar.length*l.length<=1000*100:=zl ha hl;have h1:(D8 l k nm ar).length<=200000:=by
  unfold D8;simp only[rQ]at hu;cases(bc (dz nm) l 0).isSome with
  |false=>show(kq l ar []).length<=200000;omega
  |true=>
   cases k==3 with
   |false=>show(kq l ar []).length<=200000;omega
   |true=>show(kq l ar []++ [_]).length<=200000;rw[eG];simp;omega
 unfold tk fC;rw[gR];refine eb (aj2 _) ?_;rw[gR,ahU];exact h1
def HD:List aa:=[.e 0 0,.e 1 0,.e 2 0,.e 3 0]
def Eh(vs M:List aa)(_:Unit)(c:List dq):Int⊕Unit:=bif HC M (bZ (fK c)) (tk vs (dp (fK c)) (eI (fK c)) (dG (fK c)))then .inl (bZ (fK c))else .inr ()
def zd(vs M bo:List aa):Bool×Int:=match kg (Eh vs M) (ba 20 [] bo) ()with | .inl q=>(true,q) | .inr _=>(false,0)
def aHL(hp:bF [aG nm ps rs bo ct]=true)(hv:vs.length<=50)(hM:tn (ct+1).toNat vs.length M):
  bw gD Bj ur 0 6 (.q ((ba 20 [] bo).map gQ)::HD) (w_ vs M 0 0) (bif (zd vs M bo).1 then(.c,HD,w_ vs M (zd vs M bo).2 13)else(.b,HD,w_ vs M 0 0)):=by
 have key:=C5 (α:=Unit) (β:=Int) (rJ WO) 0 (key:=6) (m:=0) ae ae aHD gQ (λ_=>HD) (λ_=>w_ vs M 0 0) (Eh vs M) (λq=>(.c,HD,w_ vs M q 13)) (λ_=>True) (ba 20 [] bo) ?_ () trivial
 ·unfold zd;cases hg:kg (Eh vs M) (ba 20 [] bo) ()with
  |inl q=>rw[hg]at key;exact key
  |inr u=>rw[hg]at key;exact key
 ·intro _ c hc _;have ha:=ahK hp c hc;obtain⟨_,hl,aMT,jQ,_⟩:=n9 (mv hp);have ZH:=y8 _ 0 aMT c hc;obtain⟨f,r,rfl⟩:=pH 20 [] bo c hc;have ZH:0<=bZ f.1/\bZ f.1<0+((ba 20 [] bo).length:Int):=ZH;have ha:(dG f.1).length<=8:=ha;obtain⟨row,he,tU⟩:=ahV hM (p:=(bZ f.1).toNat) ab;have aNw:=hM.1;refine C4 (aHE vs M f.1) (dB ?_ (dB ?_ (jl (λ_=>ke rfl rfl) λ_=>jI rfl trivial)))
  ·rw[aD (show vs.length<=100 from ab),show decide ((f.1.D 5).U.length<=1000)=true from aD (show(dG f.1).length<=1000 from ab)];rfl
  ·have h1:=aHJ vs (dp f.1) (eI f.1) (dG f.1);have h2:=aHK (l:=vs) ab (dp f.1) (eI f.1) (ar:=dG f.1) ab;rw[he,aD rfl,aD ZH.1,aD (show bZ f.1<(M.length:Int)from ab),show(aa.d 4 row).U.length=vs.length from tU];rw[show(tk vs (f.1.D 0).I (f.1.D 2).bJ (f.1.D 5).U).all (kV vs.length)=true from h1,aD (show(tk vs (f.1.D 0).I (f.1.D 2).bJ (f.1.D 5).U).length<=9223372036854775807 from eb h2 av)];rfl
def HE:aa->aa | .q [_,s]=>s |_=>.m
def Xf(vs M:List aa)(_:Unit)(v:aa):Int⊕Unit:=bif HC M (bZ (HE v)) (tk vs (dp (HE v)) (eI (HE v)) (dG (HE v)))then .inl (bZ (HE v))else .inr ()
def HF(vs M items:List aa):Bool×Int:=match cR (Xf vs M) items ()with | .inl q=>(true,q) | .inr _=>(false,0)
def aiL(vs M):∀(l:List (List dq)),(∀c∈l,∃f r,c=f::r)->cR (Xf vs M) (l.map gQ) ()=kg (Eh vs M) l ()
 | [],_=>rfl
 |c::r,h=>by
  obtain⟨f,q,rfl⟩:=h c (HS ..);rw[lX,cR,kg];have e:Xf vs M () (gQ (f::q))=Eh vs M () (f::q):=rfl;rw[e];cases Eh vs M () (f::q)with
  |inl b=>rfl
  |inr u=>exact aiL vs M r λc hc=>h c (oX _ hc)
def aiM(vs M bo):HF vs M ((ba 20 [] bo).map gQ)=zd vs M bo:=by unfold HF zd;rw[aiL vs M _ λc hc=>pH 20 [] bo c hc]
def Xg:dk:=λm_ key vs_ os=>match vs_,os with
 | [.q items,.e 0 0,.e 1 0,.e 2 0,.e 3 0],[.a false [.d 72 vs],.a false [.c .i64 0],.a false [.c .i64 0],.a false [.d 170 M]]=>
  .I (ij (∃xn xp xr xb xc,items=(ba 20 [] xb).map gQ/\bF [aG xn xp xr xb xc]=true/\tn (xc+1).toNat vs.length M) &&decide (vs.length<=50) &&Nat.beq m_ 0 &&Nat.beq key 6) (.c (HF vs M items).1 (.g (.c,[.e 0 0,.e 1 0,.e 2 0,.e 3 0],[.a false [.d 72 vs],.a false [.c .i64 (HF vs M items).2],.a false [.c .i64 13],.a false [.d 170 M]])) (.g (.b,[.e 0 0,.e 1 0,.e 2 0,.e 3 0],[.a false [.d 72 vs],.a false [.c .i64 0],.a false [.c .i64 0],.a false [.d 170 M]])))
 |_,_=>.d
def aHM:cJ gD Bj ur Xg:=by
 intro m_ key vs_ os r h;unfold Xg at h;split at h
 ·rename_i items vs M;obtain⟨h1,h2⟩:=aO h;simp only[au,bC,aNx]at h1;obtain⟨⟨⟨hc,hv⟩,rfl⟩,rfl⟩:=h1;obtain⟨nm,ps,rs,bo,ct,rfl,hp,hM⟩:=rI hc;have h3:=aHL hp hv hM;rw[aiM]at h2;cases hb:(zd vs M bo).1<;>rw[hb]at h2 h3<;>cases h2<;>exact h3
 ·simp[af.D]at h
def aHN(nm ps rs bo ct vs):(aI (ay gD Bj ur Xg) false f58 [aG nm ps rs bo ct,.d 72 vs] []).D=((letI ai:=bF [aG nm ps rs bo ct];letI ak:=D9 (aG nm ps rs bo ct) vs bo ct;letI aw:=HF vs ak (List.map gQ (ba 20 [] bo));af.c (eY ai !=0) (al (.q [ah 0,ah (eY ai)]) []) (.c (bF [aG nm ps rs bo ct] &&decide (vs.length<=50)) (.c (Nat.beq 101 101 &&Nat.beq 97 97 &&bF [aG nm ps rs bo ct]) (.c (ij (∃xn xp xr xb xc,List.map gQ (ba 20 [] bo)=List.map gQ (ba 20 [] xb)/\bF [aG xn xp xr xb xc]=true/\tn (xc+1).toNat vs.length ak) &&decide (vs.length<=50) &&Nat.beq 0 0 &&Nat.beq 6 6) (.c (aw.fst) (al (.q [ah aw.snd,ah 13]) []) (al (.q [ah 0,ah 0]) [])) .d) .d) .d)):af aC).D:=ae
def tr(f:aa)(vs:List aa):Int×Int:=bif (zd vs (D9 f vs (eJ f) (uE f)) (eJ f)).1 then((zd vs (D9 f vs (eJ f) (uE f)) (eJ f)).2,13)else(0,0)
def Xh:aq
 | [.u [.h nm,.d 101 ps,.c .i64 rs,.d 97 bo,.c .i64 ct],.d 72 vs],[]=>.I (bF [aG nm ps rs bo ct] &&decide (vs.length<=50)) (.g (.a (.q [.c .i64 (tr (aG nm ps rs bo ct) vs).1,.c .i64 (tr (aG nm ps rs bo ct) vs).2]) []))
 |_,_=>.d
def aHO(q:Int×Int):aC:=.a (.q [.c .i64 q.1,.c .i64 q.2]) []
def aHP:aH 58 Xh:=dN aW Hk (aA yJ (aA aHB (aA aD4 (aA Mq aQ)))) (rJ WO) rfl aHM λp q r h=>by
 unfold Xh at h;split at h
 ·rename_i nm ps rs bo ct vs;obtain⟨h1,h2⟩:=aO h;have h1':=h1;simp only[au,bC]at h1;obtain⟨hp,hv⟩:=h1;refine(aHN nm ps rs bo ct vs).trans (bS (kK ?_ (aZ h1' (aZ hp (aZ ?_ ?_)))) h2)
  ·show(eY (bF [aG nm ps rs bo ct]) !=0)=false;rw[hp];rfl
  ·rw[rH ⟨nm,ps,rs,bo,ct,rfl,hp,aD6 _ _ _ _⟩,aD hv];rfl
  ·show _=some (aHO (tr (aG nm ps rs bo ct) vs));rw[aiM];exact bK (λ_=>rfl) λ_=>rfl
 ·cases h
def Xi(sg vs:List aa)(rs:Int)(_:Unit)(c:List dq):(Int×Int)⊕Unit:=bif ahL sg vs rs (fK c) !=0 then .inl (bZ (fK c),ahL sg vs rs (fK c))else .inr ()
def Bk(nm:List UInt8)(ps:List aa)(rs:Int)(bo:List aa)(ct:Int)(sg vs:List aa)(q:Int×Int):List aj:=[gE nm ps rs bo ct,.a false [.d 48 sg],.a false [.d 72 vs],.a false [.c .i64 q.1],.a false [.c .i64 q.2]]
def xa(sg vs:List aa)(rs:Int)(bo:List aa):Bool×Int×Int:=match kg (Xi sg vs rs) (ba 20 [] bo) ()with | .inl q=>(true,q) | .inr _=>(false,0,0)
def aHQ{sg}(hp:bF [aG nm ps rs bo ct]=true)(hv:vs.length<=bP)(hs:oa sg=true):
  bw gD Hx De 3 2 (.q ((ba 20 [] bo).map gQ)::jK) (Bk nm ps rs bo ct sg vs (0,0)) (bif (xa sg vs rs bo).1 then(.c,jK,Bk nm ps rs bo ct sg vs (xa sg vs rs bo).2)else(.b,jK,Bk nm ps rs bo ct sg vs (0,0))):=by
 have key:=C5 (α:=Unit) (β:=Int×Int) (rJ ahI) 0 (key:=2) (m:=3) ae ae (cv (C:=Hx)) gQ (λ_=>jK) (λ_=>Bk nm ps rs bo ct sg vs (0,0)) (Xi sg vs rs) (λq=>(.c,jK,Bk nm ps rs bo ct sg vs q)) (λ_=>True) (ba 20 [] bo) ?_ () trivial
 ·unfold xa;cases hg:kg (Xi sg vs rs) (ba 20 [] bo) ()with
  |inl q=>rw[hg]at key;exact key
  |inr u=>rw[hg]at key;exact key
 ·intro _ c hc _;have ha:=ahK hp c hc;obtain⟨f,r,rfl⟩:=pH 20 [] bo c hc;refine C4 (aDF nm ps rs bo ct sg vs f.1) (dB ?_ (jl (λ_=>ke rfl rfl) λ_=>jI rfl trivial));have h1:(f.1.D 5).U.length<=8:=ha;unfold oa at hs;rw[aD (show(f.1.D 5).U.length<=1000 from ab),aD (show vs.length<=9223372036854775807 from hv)];exact hs
def Xj:dk:=λm_ key vs_ os=>match vs_,os with
 | [.q items,.e 0 0,.e 1 0,.e 2 0,.e 3 0,.e 4 0],[.a false [.h nm,.d 101 ps,.c .i64 rs,.d 97 bo,.c .i64 ct],.a false [.d 48 sg],.a false [.d 72 vs],.a false [.c .i64 0],.a false [.c .i64 0]]=>
  .I (ij (items=(ba 20 [] bo).map gQ) &&bF [aG nm ps rs bo ct] &&decide (vs.length<=bP) &&oa sg &&Nat.beq m_ 3 &&Nat.beq key 2) (.c (xa sg vs rs bo).1 (.g (.c,jK,Bk nm ps rs bo ct sg vs (xa sg vs rs bo).2)) (.g (.b,jK,Bk nm ps rs bo ct sg vs (0,0))))
 |_,_=>.d
def aHR:cJ gD Hx De Xj:=by
 intro m_ key vs_ os r h;unfold Xj at h;split at h
 ·rename_i items nm ps rs bo ct sg vs;obtain⟨h1,h2⟩:=aO h;simp only[au,bC,aNx]at h1;obtain⟨⟨⟨⟨⟨hi,hp⟩,hv⟩,hs⟩,rfl⟩,rfl⟩:=h1;obtain rfl:=rI hi;have h3:=aHQ hp hv hs;cases hb:(xa sg vs rs bo).1<;>rw[hb]at h2 h3<;>cases h2<;>exact h3
 ·simp[af.D]at h
def aHS(nm ps rs bo ct sg vs):(aI (ay gD Hx De Xj) false f52 [.e 0 0,.e 1 0,.e 2 0] [gE nm ps rs bo ct,az [.d 48 sg],az [.d 72 vs]]).D=((letI ai:=xa sg vs rs bo;letI ak:List aj:=[az [.h nm,.d 101 ps,ah rs,.d 97 bo,ah ct],az [.d 48 sg],az [.d 72 vs]];af.c (Nat.beq 101 101 &&Nat.beq 97 97 &&bF [aG nm ps rs bo ct]) (.c (ij (List.map gQ (ba 20 [] bo)=List.map gQ (ba 20 [] bo)) &&bF [aG nm ps rs bo ct] &&decide (vs.length<=cg) &&oa sg &&Nat.beq 3 3 &&Nat.beq 2 2) (.c (ai.fst) (al (.q [ah ai.snd.fst,ah ai.snd.snd]) ak) (al (.q [ah 0,ah 0]) ak)) .d) .d):af aC).D:=ae
def Bl(sg vs:List aa)(rs:Int)(bo:List aa):Int×Int:=bif (xa sg vs rs bo).1 then(xa sg vs rs bo).2 else(0,0)
def aHT(nm:List UInt8)(ps:List aa)(rs:Int)(bo:List aa)(ct:Int)(sg vs:List aa)(q:Int×Int):aC:=.a (.q [.c .i64 q.1,.c .i64 q.2]) (ahM nm ps rs bo ct sg vs)
def Xk:aq
 | [.e 0 0,.e 1 0,.e 2 0],[.a false [.h nm,.d 101 ps,.c .i64 rs,.d 97 bo,.c .i64 ct],.a false [.d 48 sg],.a false [.d 72 vs]]=>.I (bF [aG nm ps rs bo ct] &&decide (vs.length<=bP) &&oa sg) (.g (.a (.q [.c .i64 (Bl sg vs rs bo).1,.c .i64 (Bl sg vs rs bo).2]) (ahM nm ps rs bo ct sg vs)))
 |_,_=>.d
def aHU:aH 52 Xk:=dN aW Hk (aA aBX (aA Mq aQ)) (rJ ahI) rfl aHR λp q r h=>by
 unfold Xk at h;split at h
 ·rename_i nm ps rs bo ct sg vs;obtain⟨h1,h2⟩:=aO h;simp only[au,bC]at h1;obtain⟨⟨hp,hv⟩,hs⟩:=h1;refine(aHS nm ps rs bo ct sg vs).trans (bS (aZ (by rw[hp];rfl) (aZ (by rw[rH rfl,hp,hs,aD (show vs.length<=9223372036854775807 from hv)];rfl) ?_)) h2);show _=some (aHT nm ps rs bo ct sg vs (Bl sg vs rs bo));exact bK (λ_=>rfl) λ_=>rfl
 ·cases h
def aHV(nm ps rs bo ct):(aI (ay an (aL [(56,WN)]) RV aK) false f55 [.e 0 0] [gE nm ps rs bo ct]).D=((letI ai:List aj:=[az [.h nm,.d 101 ps,ah rs,.d 97 bo,ah ct]];letI ak:af aC:=al (.q [ah 0,ah 0]) ai;af.c (rs !=0) (.c (ME (aG nm ps rs bo ct) bo ct) (al (.q [ah ct,ah 14]) ai) ak) ak):af aC).D:=ae
def Bm(f:aa)(rs:Int)(bo:List aa)(ct:Int):Int×Int:=bif rs !=0 then(bif ME f bo ct then(ct,14)else(0,0))else(0,0)
def Xl:aq
 | [.e 0 0],[.a false [.h nm,.d 101 ps,.c .i64 rs,.d 97 bo,.c .i64 ct]]=>.g (.a (.q [.c .i64 (Bm (aG nm ps rs bo ct) rs bo ct).1,.c .i64 (Bm (aG nm ps rs bo ct) rs bo ct).2]) [gE nm ps rs bo ct])
 |_,_=>.d
def aHW(f:aj)(q:Int×Int):aC:=.a (.q [.c .i64 q.1,.c .i64 q.2]) [f]
def aHX:aH 55 Xl:=bI (aA aDs aQ) aDw λp q r h=>by
 unfold Xl at h;split at h
 ·rename_i nm ps rs bo ct;refine(aHV nm ps rs bo ct).trans (bS ?_ h);show _=some (aHW (gE nm ps rs bo ct) (Bm (aG nm ps rs bo ct) rs bo ct));exact bK (λ_=>bK (λ_=>rfl) λ_=>rfl) λ_=>rfl
 ·cases h
def aHY(nm ps rs bo ct vs):(aI (ay an (aL [(58,Xh)]) RW aK) false f57 [.e 0 0,.e 1 0] [gE nm ps rs bo ct,az [.d 72 vs]]).D=((af.c (bF [aG nm ps rs bo ct] &&decide (vs.length<=50)) (al (.q [ah (tr (aG nm ps rs bo ct) vs).fst,ah (tr (aG nm ps rs bo ct) vs).snd]) [az [.h nm,.d 101 ps,ah rs,.d 97 bo,ah ct],az [.d 72 vs]]) .d)).D:=ae
def Xm:aq
 | [.e 0 0,.e 1 0],[.a false [.h nm,.d 101 ps,.c .i64 rs,.d 97 bo,.c .i64 ct],.a false [.d 72 vs]]=>.I (bF [aG nm ps rs bo ct] &&decide (vs.length<=50)) (.g (.a (.q [.c .i64 (tr (aG nm ps rs bo ct) vs).1,.c .i64 (tr (aG nm ps rs bo ct) vs).2]) [gE nm ps rs bo ct,.a false [.d 72 vs]]))
 |_,_=>.d
def aHZ:aH 57 Xm:=bI (aA aHP aQ) aDx λp q r h=>by
 unfold Xm at h;split at h
 ·exact(aHY _ _ _ _ _ _).trans h
 ·cases h
def aiN:FuncId->aq:=aL [(51,Wz),(52,Xk),(55,Xl),(57,Xm)]
def aH0(nm ps rs bo ct sg):(aI (ay an aiN Ke (cG an aiN Ke 5 5).d) false f29 [.d 48 sg,aG nm ps rs bo ct] []).D=((letI ai:=aG nm ps rs bo ct;letI ak:=my ai ps bo ct;letI aw:=Bl sg ak.fst rs bo;letI aS:=Bm ai rs bo ct;letI bx:=tr ai ak.fst;af.c (ak.snd.snd !=0) (al (.q [.d 72 [],ah ak.snd.fst,ah ak.snd.snd]) []) (.c (bF [aG nm ps rs bo ct] &&decide (ak.fst.length<=cg) &&oa sg) (.c (aw.snd !=0) (al (.q [.d 72 [],ah aw.fst,ah aw.snd]) []) (.c (aS.snd !=0) (al (.q [.d 72 [],ah aS.fst,ah aS.snd]) []) (.c (bF [aG nm ps rs bo ct] &&decide (ak.fst.length<=50)) (.c (bx.snd !=0) (al (.q [.d 72 [],ah bx.fst,ah bx.snd]) []) (al (.q [.d 72 ak.fst,ah 0,ah 0]) [])) .d))) .d)):af aC).D:=ae
def Ei(f:aa)(ps:List aa)(rs:Int)(bo:List aa)(ct:Int)(sg:List aa):List aa×Int×Int:=bif (my f ps bo ct).2.2 !=0 then([],(my f ps bo ct).2.1,(my f ps bo ct).2.2)else bif (Bl sg (my f ps bo ct).1 rs bo).2 !=0 then([],(Bl sg (my f ps bo ct).1 rs bo).1,(Bl sg (my f ps bo ct).1 rs bo).2)else bif (Bm f rs bo ct).2 !=0 then([],(Bm f rs bo ct).1,(Bm f rs bo ct).2)else bif (tr f (my f ps bo ct).1).2 !=0 then([],(tr f (my f ps bo ct).1).1,(tr f (my f ps bo ct).1).2)else((my f ps bo ct).1,0,0)
def Xn:aq
 | [.d 48 sg,.u [.h nm,.d 101 ps,.c .i64 rs,.d 97 bo,.c .i64 ct]],[]=>.I (bF [aG nm ps rs bo ct] &&oa sg) (.g (.a (.q [.d 72 (Ei (aG nm ps rs bo ct) ps rs bo ct sg).1,.c .i64 (Ei (aG nm ps rs bo ct) ps rs bo ct sg).2.1,.c .i64 (Ei (aG nm ps rs bo ct) ps rs bo ct sg).2.2]) []))
 |_,_=>.d
def aH1:aH 29 Xn:=dN aW c_ (aA aCU (aA aHU (aA aHX (aA aHZ aQ)))) aDv rfl (sH 5) λp q r h=>by
 unfold Xn at h;split at h
 ·rename_i sg nm ps rs bo ct;obtain⟨h1,h2⟩:=aO h;rw[au]at h1;refine(aH0 nm ps rs bo ct sg).trans (bS ?_ h2);show _=some (Wy (Ei (aG nm ps rs bo ct) ps rs bo ct sg));have hl:=aCT (aG nm ps rs bo ct) ps bo ct;refine bK (λ_=>rfl) λ_=>aZ ?_ (bK (λ_=>rfl) λ_=>bK (λ_=>rfl) λ_=>aZ ?_ (bK (λ_=>rfl) λ_=>rfl))
  ·rw[h1.1,h1.2,aD (show(my (aG nm ps rs bo ct) ps bo ct).1.length<=9223372036854775807 from ab)];rfl
  ·rw[h1.1,aD hl];rfl
 ·cases h
def aH2{k ty:Int}{ca el bo' el'}(h1:bo'.length=bo.length)(h2:el'.length=el.length):qv k nm ty ca ar bo' el'=qv k nm ty ca ar bo el:=by unfold qv;rw[h1,h2]
def aiO(f:List aa->Int->List aa×Int):∀(l:List aa)(n:Int),(ic f l n).1.length=l.length
 | [],n=>rfl
 |s::r,n=>by show(_::(ic f r _).1).length=(s::r).length;rw[eM,eM,aiO f r]
def aiP:∀(m:Nat)(l:List aa)(n:Int),cK m l=true->(bQ m l n).1.length=l.length
 |0,l,n,h=>by rw[cK,tD]at h;subst h;rfl
 |m+1,l,n,_=>aiO _ l n
def Xo:∀(m:Nat)(l:List aa)(n k:Int),cK m l=true->bn m (bQ m l n).1 k=bn m l k
 |0,l,n,k,h=>by rw[cK,tD]at h;subst h;rfl
 |m+1,l,n,k,h=>by
  have key:∀(r:List aa)(n k:Int),(∀s∈r,cK m (aP s)=true/\cK m (bf s)=true)->eZ (bn m) (ic (bQ m) r n).1 k=eZ (bn m) r k:=by
   intro r;induction r with
   |nil=>intro n k _;rfl
   |cons s r ih=>intro n k hn;obtain⟨n1,n2⟩:=hn s aB;have e1:=aiP m (aP s) (n+1) n1;have e2:=aiP m (bf s) (bQ m (aP s) (n+1)).2 n2;have hd:lj (dL (dp s) n (eI s) (iD s) (jJ s) (dG s) (bQ m (aP s) (n+1)).1 (bQ m (bf s) (bQ m (aP s) (n+1)).2).1)=lj s:=aH2 e1 e2;show eZ (bn m) (dL (dp s) n (eI s) (iD s) (jJ s) (dG s) (bQ m (aP s) (n+1)).1 (bQ m (bf s) (bQ m (aP s) (n+1)).2).1::(ic (bQ m) r (bQ m (bf s) (bQ m (aP s) (n+1)).2).2).1) k=eZ (bn m) (s::r) k;unfold eZ;rw[hd];have b1:aP (dL (dp s) n (eI s) (iD s) (jJ s) (dG s) (bQ m (aP s) (n+1)).1 (bQ m (bf s) (bQ m (aP s) (n+1)).2).1)=(bQ m (aP s) (n+1)).1:=rfl;have b2:bf (dL (dp s) n (eI s) (iD s) (jJ s) (dG s) (bQ m (aP s) (n+1)).1 (bQ m (bf s) (bQ m (aP s) (n+1)).2).1)=(bQ m (bf s) (bQ m (aP s) (n+1)).2).1:=rfl;rw[b1,b2,Xo m (aP s) (n+1) (k+1) n1,Xo m (bf s) _ _ n2,ih _ _ (λu hu=>hn u (by simp[hu]))]
  exact key l n k (uR h)
def MP:∀(m:Nat)(l:List aa)(c:List dq)(n:Int),cK m l=true->(bQ m l n).2=n+(ba m c l).length
 |0,l,c,n,h=>by rw[cK,tD]at h;subst h;show n=n+((0:Nat):Int);omega
 |m+1,l,c,n,h=>by
  have key:∀(r:List aa)(i:Nat)(n:Int),(∀s∈r,cK m (aP s)=true/\cK m (bf s)=true)->(ic (bQ m) r n).2=n+(jq (ba m) c l i r).length:=by
   intro r;induction r with
   |nil=>intro i n _;show n=n+((0:Nat):Int);omega
   |cons s r ih=>intro i n hn;obtain⟨n1,n2⟩:=hn s aB;show(ic (bQ m) r (bQ m (bf s) (bQ m (aP s) (n+1)).2).2).2=_;rw[ih (i+1) _ (λu hu=>hn u (by simp[hu])),MP m (bf s) ((s,l,i)::c) _ n2,MP m (aP s) ((s,l,i)::c) _ n1,jq,eM,eG,eG];omega
  exact key l 0 n (uR h)
def Xp:∀(m:Nat)(l:List aa)(n:Int),0<=n->(bQ m l n).2<=1000000->cK m l=true->db m (bQ m l n).1 (true,n)=(true,(bQ m l n).2)
 |0,l,n,_,_,_=>rfl
 |m+1,l,n,h0,hb,h=>by
  have mono:∀(m:Nat)(l:List aa)(n:Int),cK m l=true->n<=(bQ m l n).2:=λm l n h=>by have:=MP m l [] n h;omega
  have aMU:∀(r:List aa)(n:Int),(∀s∈r,cK m (aP s)=true/\cK m (bf s)=true)->n<=(ic (bQ m) r n).2:=by
   intro r;induction r with
   |nil=>intro n _;exact j1 _
   |cons s r ih=>intro n hn;obtain⟨n1,n2⟩:=hn s aB;have:=ih (bQ m (bf s) (bQ m (aP s) (n+1)).2).2 (λu hu=>hn u (by simp[hu]));have m1:=mono m (aP s) (n+1) n1;have m2:=mono m (bf s) (bQ m (aP s) (n+1)).2 n2;show n<=(ic (bQ m) r (bQ m (bf s) (bQ m (aP s) (n+1)).2).2).2;omega
  have key:∀(r:List aa)(n:Int),0<=n->(ic (bQ m) r n).2<=1000000->(∀s∈r,cK m (aP s)=true/\cK m (bf s)=true)->mr (db m) (ic (bQ m) r n).1 (true,n)=(true,(ic (bQ m) r n).2):=by
   intro r;induction r with
   |nil=>intro n _ _ _;rfl
   |cons s r ih=>intro n h0 hb hn;obtain⟨n1,n2⟩:=hn s aB;have hr:∀s∈r,cK m (aP s)=true/\cK m (bf s)=true:=λu hu=>hn u (by simp[hu]);have hb:(ic (bQ m) r (bQ m (bf s) (bQ m (aP s) (n+1)).2).2).2<=1000000:=hb;have k1:=aMU r (bQ m (bf s) (bQ m (aP s) (n+1)).2).2 hr;have k2:=mono m (bf s) (bQ m (aP s) (n+1)).2 n2;have k3:=mono m (aP s) (n+1) n1;have hw:i64.wrap (n+1)=n+1:=ep ab ab;show mr (db m) (ic (bQ m) r (bQ m (bf s) (bQ m (aP s) (n+1)).2).2).1 (db m (bQ m (bf s) (bQ m (aP s) (n+1)).2).1 (db m (bQ m (aP s) (n+1)).1 (true && (n==n),i64.wrap (n+1))))=_;rw[beq_self_eq_true,Bool.and_self,hw,Xp m (aP s) (n+1) ab ab n1,Xp m (bf s) _ ab ab n2,ih _ ab hb hr];rfl
  exact key l n h0 hb (uR h)
def aH3{f}(h:sZ f=true):kN (oQ f)=true:=by
 have hn:=Tp (show fm (fo f) (iE f) (jY f) (eJ f)=true from h);have hs:(bn 20 (eJ f) 0).1=true:=by have h1:fm (fo f) (iE f) (jY f) (eJ f)=true:=h;unfold fm at h1;rw[au]at h1;exact h1.2
 have e1:=V_ 20 (eJ f) [] 0 ab ab hs hn;have e2:=((kM 20 (eJ f) 0 ab ab).2.2 hs).1;have e3:=MP 20 (eJ f) [] 0 hn;have hc:=Xp 20 (eJ f) 0 ab ab hn;have hf:fm (fo (oQ f)) (iE (oQ f)) (jY (oQ f)) (eJ (oQ f))=true:=by show fm (fo f) (iE f) (jY f) (bQ 20 (eJ f) 0).1=true;have h1:fm (fo f) (iE f) (jY f) (eJ f)=true:=h;unfold fm at h1⊢;rw[Xo 20 (eJ f) 0 0 hn];exact h1
 unfold kN;rw[hf];show(true && (db 20 (bQ 20 (eJ f) 0).1 (true,0)).1 && !((bQ 20 (eJ f) 0).2 !=(db 20 (bQ 20 (eJ f) 0).1 (true,0)).2))=true;rw[hc];simp
def aiQ(h:bF l=true):bF (fP l)=true:=by
 unfold bF at h⊢;rw[au]at h;have hl:decide ((l.length:Int)>20)=false:=by simpa using h.1
 have ha:l.all sZ=true:=by rw[dS];intro f hf;have:=List.all_eq_true.1 h.2 f hf;unfold kN at this;rw[au,au]at this;exact this.1.1
 have hm:fP l=l.map oQ:=by unfold fP;rw[hl,ha];rfl
 rw[hm,gR,hl,au,dS];refine⟨rfl,λu hu=> ?_⟩;obtain⟨f,hf,rfl⟩:=List.mem_map.1 hu;exact aH3 (List.all_eq_true.1 ha f hf)
def MQ:FuncId->aq:=aL [(27,wz),(28,Vg),(18,G3),(29,Xn)]
def aiR(fs sg ks vs len i):(cB (ay an MQ Az aK) 0 12 (cq Az 0) [.e 0 0,.d 48 sg,.e 1 0,.d 43 fs,ah len,ah i] [az [.h [],ah 0],az [.d 43 fs,.d 48 sg,.F 2],.d false 36 ks vs]).D=((letI ai:=fs.getD i.toNat .m;letI ak:=ai.D 0;letI aw:=Ei (aG ak.bJ (ai.D 1).U (ai.D 2).I (ai.D 3).U (ai.D 4).I) (ai.D 1).U (ai.D 2).I (ai.D 3).U (ai.D 4).I sg;letI aS:List aa:=[.d 43 fs,.d 48 sg,.F 2];af.c (decide (i<len)) (.c (decide (0<=i) &&decide (i<(↑fs.length:Int))) (.c (bF [aG ak.bJ (ai.D 1).U (ai.D 2).I (ai.D 3).U (ai.D 4).I] &&oa sg) (.c (aw.snd.snd !=0) (.g ((.c,[.B,.e 0 0,ah aw.snd.snd,.e 1 0],[az [.h ak.bJ,ah aw.snd.fst],az aS,.d false 36 ks vs]))) (.g ((.b,[.e 0 0,.d 48 sg,.e 1 0,.d 43 fs,ah len,ah (i64.wrap (i+1))],[az [.h [],ah 0],az aS,.d false 36 (fL {a:=1,b:=false,e:=16,d:=[bY.b],c:=mK.b,f:=false} (.h ak.bJ) (.d 72 aw.fst) ks vs).fst (fL {a:=1,b:=false,e:=16,d:=[bY.b],c:=mK.b,f:=false} (.h ak.bJ) (.d 72 aw.fst) ks vs).snd])))) .d) .d) (.g ((.a 1,[.m,.e 0 0,.m,.e 1 0],[az [.h [],ah 0],az aS,.d false 36 ks vs])))):af (aU×List aa×List aj)).D:=ae
structure zf where
 a:List aa
 b:List aa
def Bn(sg:List aa)(f:aa):List aa×Int×Int:=Ei (lP f) (iE f) (jY f) (eJ f) (uE f) sg
def Bo(sg:List aa)(a:zf)(f:aa):(zf×List UInt8×Int×Int)⊕zf:=bif (Bn sg f).2.2 !=0 then .inl (a,fo f,(Bn sg f).2.1,(Bn sg f).2.2)else .inr ⟨(fL oR (.h (fo f)) (.d 72 (Bn sg f).1) a.a a.b).1,(fL oR (.h (fo f)) (.d 72 (Bn sg f).1) a.a a.b).2⟩
def MR(fs sg:List aa)(a:zf)(nm:List UInt8)(no:Int):List aj:=[.a false [.h nm,.c .i64 no],.a false [.d 43 fs,.d 48 sg,.F 2],.d false 36 a.a a.b]
def aiS(fs sg:List aa)(a:zf):aU×List aa×List aj:=(.a 1,[.m,.e 0 0,.m,.e 1 0],MR fs sg a [] 0)
def aiT(fs sg:List aa)(q:zf×List UInt8×Int×Int):aU×List aa×List aj:=(.c,[.B,.e 0 0,.c .i64 q.2.2.2,.e 1 0],MR fs sg q.1 q.2.1 q.2.2.1)
def aH4(h:bF fs=true)(hn:n<fs.length):bF [lP (fs.getD n .m)]=true:=by unfold bF at h;rw[au]at h;have:=ug h.2 hn;exact aCd (f:=lP (fs.getD n .m)) this
def aH5(fs sg)(hp:bF fs=true)(hs:oa sg=true):bw an MQ Az 0 12 [.e 0 0,.d 48 sg,.e 1 0,.d 43 fs,.c .i64 (fs.length:Int),.c .i64 0] (MR fs sg ⟨[],[]⟩ [] 0) (ml (aiT fs sg) (aiS fs sg) (cR (Bo sg) fs ⟨[],[]⟩)):=by
 refine pz ahJ 0 ae ae cv (λn _=> [.e 0 0,.d 48 sg,.e 1 0,.d 43 fs,.c .i64 (fs.length:Int),.c .i64 n]) (λ_ a=>MR fs sg a [] 0) (Bo sg) (aiT fs sg) (aiS fs sg) (λ_ _=>True) fs ⟨[],[]⟩ trivial ?_ ?_
 ·intro n a hn _;refine oF (aiR fs sg a.a a.b (fs.length:Int) n) (dB (mm hn) (dB (jk hn) (dB ?_ (jl (λ_=>ke rfl rfl) λ_=>jI ?_ trivial))))
  ·rw[hs,Nl];exact aH4 hp hn
  ·rw[mn hn (by have:bP=9223372036854775807:=rfl;have:=Lt hp;omega)];rfl
 ·intro a _;have e:=aiR fs sg a.a a.b (fs.length:Int) fs.length;rw[mP]at e;exact⟨e,rfl⟩
def kW(fs sg:List aa):Bool×zf×List UInt8×Int×Int:=match cR (Bo sg) fs ⟨[],[]⟩with | .inl q=>(true,q) | .inr a=>(false,a,[],0,0)
def Xq:dk:=λm_ key vs os=>match vs,os with
 | [.e 0 0,.d 48 sg,.e 1 0,.d 43 fs,.c .i64 len,.c .i64 0],[.a false [.h [],.c .i64 0],.a false [.d 43 fs2,.d 48 sg2,.F 2],.d false 36 [] []]=>
  .I (ij (fs2=fs) &&ij (sg2=sg) &&bF fs &&oa sg &&decide (len=(fs.length:Int)) &&Nat.beq m_ 0 &&Nat.beq key 12) (.c (kW fs sg).1 (.g (.c,[.B,.e 0 0,.c .i64 (kW fs sg).2.2.2.2,.e 1 0],[.a false [.h (kW fs sg).2.2.1,.c .i64 (kW fs sg).2.2.2.1],.a false [.d 43 fs,.d 48 sg,.F 2],.d false 36 (kW fs sg).2.1.a (kW fs sg).2.1.b]))
   (.g (.a 1,[.m,.e 0 0,.m,.e 1 0],[.a false [.h [],.c .i64 0],.a false [.d 43 fs,.d 48 sg,.F 2],.d false 36 (kW fs sg).2.1.a (kW fs sg).2.1.b])))
 |_,_=>.d
def aH6:cJ an MQ Az Xq:=by
 intro m_ key vs os r h;unfold Xq at h;split at h
 ·rename_i sg fs len fs2 sg2;obtain⟨h1,h2⟩:=aO h;simp only[au,bC,aNx]at h1;obtain⟨⟨⟨⟨⟨⟨e1,e2⟩,hp⟩,hs⟩,rfl⟩,rfl⟩,rfl⟩:=h1;obtain rfl:=rI e1;obtain rfl:=rI e2;have h8:=aH5 fs2 sg2 hp hs;unfold kW at h2;cases hc:cR (Bo sg2) fs2 ⟨[],[]⟩<;>rw[hc]at h2 h8<;>cases h2<;>exact h8
 ·simp[af.D]at h
def aH7(fs):(aI (ay an MQ Az Xq) false f13 [.u [.d 43 fs]] []).D=((letI ai:=ey fs;letI ak:=(↑(fP fs).length:Int);letI aw:=kW (fP fs) ai.fst;af.c (eY (bF fs) !=0) (al (.q [.B,nR [] 0,ah (eY (bF fs))]) []) (.c (ai.snd.snd==0) (.c (ij (fP fs=fP fs) &&ij (ai.fst=ai.fst) &&bF (fP fs) &&oa ai.fst &&decide (ak=ak) &&Nat.beq 0 0 &&Nat.beq 12 12) (.c (aw.fst) (al (.q [.B,nR aw.snd.snd.fst aw.snd.snd.snd.fst,ah aw.snd.snd.snd.snd]) []) (al (.q [.A [.d 43 (fP fs),.d 48 ai.fst,.J 36 aw.snd.fst.a aw.snd.fst.b],nR [] 0,ah 0]) [])) .d) (.c (ai.snd.snd==11) (.c (decide (0<=ai.snd.fst) &&decide (ai.snd.fst<(↑fs.length:Int))) (al (.q [.B,nR ((fs.getD ai.snd.fst.toNat .m).D 0).bJ (-1:Int),ah ai.snd.snd]) []) .d) (al (.q [.B,nR [] (-1:Int),ah ai.snd.snd]) [])))):af aC).D:=ae
def MS(a:tb):Prop:=a.a.all pF=true
def Xr:∀(fs:List aa)(a:tb),fs.all A5=true->MS a->match cR qx fs a with | .inl b=>b.a.length<a.a.length+fs.length | .inr b=>MS b/\b.a.length=a.a.length+fs.length
 | [],a,_,h=>⟨h,rfl⟩
 |f::r,a,hf,h=>by
  rw[ja,au]at hf;rw[cR];unfold qx;cases(iN oR (.h (fo f)) a.c a.b).isSome with
  |true=>show a.a.length<a.a.length+(f::r).length;rw[eM];omega
  |false=>
   have key:=Xr r ⟨(fL oR (.h (fo f)) (ta f) a.c a.b).1,(fL oR (.h (fo f)) (ta f) a.c a.b).2,a.a++ [ta f]⟩ hf.2 (by
    unfold MS;rw[Np,h,qJ,ja,Nb,Nl];have:(iE f).length<=1000:=ff hf.1;unfold pF;refine aD ?_;show((iE f).map rE).length<=_;rw[gR];omega)
   show match cR qx r ⟨_,_,a.a++ [ta f]⟩with | .inl b=>b.a.length<a.a.length+(f::r).length | .inr b=>MS b/\b.a.length=a.a.length+(f::r).length
   cases hg:cR qx r ⟨(fL oR (.h (fo f)) (ta f) a.c a.b).1,(fL oR (.h (fo f)) (ta f) a.c a.b).2,a.a++ [ta f]⟩with
   |inl b=>rw[hg]at key;simp only[eG,eM,rQ]at key⊢;omega
   |inr b=>rw[hg]at key;refine⟨key.1,?_⟩;have:=key.2;simp only[eG,eM,rQ]at this⊢;omega
def aH8(hp:bF fs=true)(h:(ey fs).2.2=11):0<=(ey fs).2.1/\(ey fs).2.1<(fs.length:Int):=by
 have key:=Xr fs ⟨[],[],[]⟩ (Vh hp) rfl;unfold ey at h⊢;rw[hp]at h⊢;unfold kS at h⊢;cases hg:cR qx fs ⟨[],[],[]⟩with
 |inl b=>rw[hg]at key;have key:b.a.length<0+fs.length:=key;show 0<=(b.a.length:Int)/\(b.a.length:Int)<fs.length;omega
 |inr b=>
  rw[hg]at h;exfalso
  revert h
  show(bif DW fs then(b.a,(0:Int),(0:Int))else([], -1,15)).2.2=11->False;cases DW fs with
  |false=>intro h;exact absurd (show(15:Int)=11 from h) av
  |true=>intro h;exact absurd (show(0:Int)=11 from h) av
def aH9(hp:bF fs=true):oa (ey fs).1=true:=by
 have key:=Xr fs ⟨[],[],[]⟩ (Vh hp) rfl;have hl:=Lt hp;have h0:oa []=true:=av;unfold ey;rw[hp];unfold kS;cases hg:cR qx fs ⟨[],[],[]⟩with
 |inl b=>exact h0
 |inr b=>
  rw[hg]at key;show oa (bif DW fs then(b.a,(0:Int),(0:Int))else([], -1,15)).1=true;cases DW fs with
  |false=>exact h0
  |true=>show oa b.a=true;unfold oa;have k2:b.a.length=0+fs.length:=key.2;have k1:b.a.all pF=true:=key.1;rw[k1,Nl];exact aD (by unfold bP;omega)
def oV(fs:List aa):Bool:=bF fs && ((ey fs).2.2==0) && !(kW (fP fs) (ey fs).1).1
def ng(fs:List aa):(List UInt8×Int)×Int:=bif eY (bF fs) !=0 then(([],0),eY (bF fs))else bif (ey fs).2.2==0 then(((kW (fP fs) (ey fs).1).2.2.1,(kW (fP fs) (ey fs).1).2.2.2.1),(kW (fP fs) (ey fs).1).2.2.2.2)else bif (ey fs).2.2==11 then((fo (fs.getD (ey fs).2.1.toNat .m), -1),(ey fs).2.2)else(([], -1),(ey fs).2.2)
def Xs(q:(List UInt8×Int)×Int):aC:=.a (.q [.B,.u [.h q.1.1,.c .i64 q.1.2],.c .i64 q.2]) []
def MT(fs:List aa):List aa:=(kW (fP fs) (ey fs).1).2.1.a
def MU(fs:List aa):List aa:=(kW (fP fs) (ey fs).1).2.1.b
def Xt:aq
 | [.u [.d 43 fs]],[]=>.c (oV fs) (.g (.a (.q [.A [.d 43 (fP fs),.d 48 (ey fs).1,.J 36 (MT fs) (MU fs)],.u [.h [],.c .i64 0],.c .i64 0]) []))
   (.g (.a (.q [.B,.u [.h (ng fs).1.1,.c .i64 (ng fs).1.2],.c .i64 (ng fs).2]) []))
 |_,_=>.d
def aH_:aH 13 Xt:=dN aW c_ (aA yJ (aA aAl (aA af_ (aA aH1 aQ)))) ahJ rfl aH6 λp r u h=>by
 unfold Xt at h;split at h
 ·rename_i fs;refine(aH7 fs).trans (bS ?_ h);cases hp:bF fs with
  |false=>
   have e1:oV fs=false:=by unfold oV;rw[hp];rfl
   have e2:ng fs=(([],0),2):=by unfold ng;rw[hp];rfl
   rw[e1];exact aZ rfl (dh (λq=>some (Xs q)) e2.symm)
  |true=>
   refine kK rfl ?_;cases h2:(ey fs).2.2==0 with
   |true=>
    refine aZ rfl (aZ ?_ ?_)
    ·rw[rH rfl,rH rfl,aiQ hp,aH9 hp,aD rfl];rfl
    ·cases h3:(kW (fP fs) (ey fs).1).1 with
     |true=>
      have e1:oV fs=false:=by unfold oV;rw[hp,h2,h3];rfl
      have e2:ng fs=(((kW (fP fs) (ey fs).1).2.2.1,(kW (fP fs) (ey fs).1).2.2.2.1),(kW (fP fs) (ey fs).1).2.2.2.2):=by unfold ng;rw[hp,h2];rfl
      rw[e1];exact dh (λq=>some (Xs q)) e2.symm
     |false=>
      have e1:oV fs=true:=by unfold oV;rw[hp,h2,h3];rfl
      rw[e1];rfl
   |false=>
    have e1:oV fs=false:=by unfold oV;rw[hp,h2];rfl
    rw[e1];refine kK rfl ?_;have e2:ng fs=bif (ey fs).2.2==11 then((fo (fs.getD (ey fs).2.1.toNat .m), -1),(ey fs).2.2)else(([], -1),(ey fs).2.2):=by unfold ng;rw[hp,h2];rfl
    show _=some (Xs (ng fs));rw[e2];refine bK (λh3=> ?_) λ_=>rfl;have:=aH8 hp (eq_of_beq h3);exact aZ (by rw[aD this.1,aD this.2];rfl) rfl
 ·cases h
def aH':FuncId->aq:=aL [(12,U8),(13,Xt)]
def aIa(s):(aI (ay an aH' RX aK) false f5 [.h s] []).D=((letI ai:=ig s;letI ak:=ng ai.fst;af.c (ai.snd.snd !=0) (al (.q [.B,nR [] 0,.u [ah ai.snd.fst.fst,ah ai.snd.fst.snd],ah ai.snd.snd]) []) (.c (oV ai.fst) (al (.q [.A [.d 43 (fP ai.fst),.d 48 (ey ai.fst).fst,.J 36 (MT ai.fst) (MU ai.fst)],nR [] 0,.u [ah 0,ah 0],ah 0]) []) (al (.q [.B,nR ak.fst.fst ak.fst.snd,.u [ah 0,ah 0],ah ak.snd]) []))):af aC).D:=ae
def lV:aq
 | [.h s],[]=>.c ((ig s).2.2 !=0) (.g (.a (.q [.B,.u [.h [],.c .i64 0],.u [.c .i64 (ig s).2.1.1,.c .i64 (ig s).2.1.2],.c .i64 (ig s).2.2]) []))
   (.c (oV (ig s).1) (.g (.a (.q [.A [.d 43 (fP (ig s).1),.d 48 (ey (ig s).1).1,.J 36 (MT (ig s).1) (MU (ig s).1)],.u [.h [],.c .i64 0],.u [.c .i64 0,.c .i64 0],.c .i64 0]) []))
    (.g (.a (.q [.B,.u [.h (ng (ig s).1).1.1,.c .i64 (ng (ig s).1).1.2],.u [.c .i64 0,.c .i64 0],.c .i64 (ng (ig s).1).2]) [])))
 |_,_=>.d
def aiU:aH 5 lV:=bI (aA az5 (aA aH_ aQ)) aDy λp q r h=>by
 unfold lV at h;split at h
 ·exact(aIa _).trans h
 ·cases h
def aIb(u:Unit):(aI (ay an (aL []) FZ aK) false f14 [.B] []).D=((af.g (aC.a (aa.p false) []))).D:=ae
def aIc(a b c d):(aI (ay an (aL []) FZ aK) false f14 [.A [.d 43 a,.d 48 b,.J 36 c d]] []).D=((af.g (aC.a (aa.p true) []))).D:=ae
def aId(u:Unit):(aI (ay an (aL []) FZ aK) false f14 [.e 0 0] [az [.w,.w,.E]]).D=((af.g (aC.a (aa.p false) [aj.a false [aa.w,aa.w,aa.E]]))).D:=ae
def MV:aq
 | [.B],[]=>.g (.a (.p false) [])
 | [.A [.d 43 _,.d 48 _,.J 36 _ _]],[]=>.g (.a (.p true) [])
 | [.e 0 0],[.a false [.w,.w,.E]]=>.g (.a (.p false) [.a false [.w,.w,.E]])
 |_,_=>.d
def HG:aH 14 MV:=bI aQ aDz λp q r h=>by
 unfold MV at h;split at h
 ·exact(aIb ()).trans h
 ·exact(aIc _ _ _ _).trans h
 ·exact(aId ()).trans h
 ·cases h
def xd:FuncId->aq:=aL [(14,MV),(15,TH)]
def aIe(u:Unit):(aI (ay an xd sM aK) false f6 [.B,.B] []).D=((af.g (aC.a (aa.p false) []))).D:=ae
def aIf(a b c d e f g h):(aI (ay an xd sM aK) false f6 [.A [.d 43 a,.d 48 b,.J 36 c d],.A [.d 43 e,.d 48 f,.J 36 g h]] []).D=((af.g (aC.a (aa.p (AS a e)) []))).D:=ae
def aIg(a b c d):(aI (ay an xd sM aK) false f6 [.A [.d 43 a,.d 48 b,.J 36 c d],.B] []).D=((af.g (aC.a (aa.p false) []))).D:=ae
def aIh(a b c d):(aI (ay an xd sM aK) false f6 [.B,.A [.d 43 a,.d 48 b,.J 36 c d]] []).D=((af.g (aC.a (aa.p false) []))).D:=ae
def aIi(u:Unit):(aI (ay an xd sM aK) false f6 [.e 0 0,.e 0 0] [az [.w,.w,.E]]).D=((af.g (aC.a (aa.p false) [aj.a false [aa.w,aa.w,aa.E]]))).D:=ae
def aIj(u:Unit):(aI (ay an xd sM aK) false f6 [.e 0 0,.B] [az [.w,.w,.E]]).D=((af.g (aC.a (aa.p false) [aj.a false [aa.w,aa.w,aa.E]]))).D:=ae
def aIk(u:Unit):(aI (ay an xd sM aK) false f6 [.B,.e 0 0] [az [.w,.w,.E]]).D=((af.g (aC.a (aa.p false) [aj.a false [aa.w,aa.w,aa.E]]))).D:=ae
def aIl(a b c d):(aI (ay an xd sM aK) false f6 [.e 0 0,.A [.d 43 a,.d 48 b,.J 36 c d]] [az [.w,.w,.E]]).D=((af.g (aC.a (aa.p false) [aj.a false [aa.w,aa.w,aa.E]]))).D:=ae
def aIm(a b c d):(aI (ay an xd sM aK) false f6 [.A [.d 43 a,.d 48 b,.J 36 c d],.e 0 0] [az [.w,.w,.E]]).D=((af.g (aC.a (aa.p false) [aj.a false [aa.w,aa.w,aa.E]]))).D:=ae
def Xu:aq
 | [.B,.B],[]=>.g (.a (.p false) [])
 | [.A [.d 43 a,.d 48 _,.J 36 _ _],.A [.d 43 e,.d 48 _,.J 36 _ _]],[]=>.g (.a (.p (AS a e)) [])
 | [.A [.d 43 _,.d 48 _,.J 36 _ _],.B],[]=>.g (.a (.p false) [])
 | [.B,.A [.d 43 _,.d 48 _,.J 36 _ _]],[]=>.g (.a (.p false) [])
 | [.e 0 0,.e 0 0],[.a false [.w,.w,.E]]=>.g (.a (.p false) [.a false [.w,.w,.E]])
 | [.e 0 0,.B],[.a false [.w,.w,.E]]=>.g (.a (.p false) [.a false [.w,.w,.E]])
 | [.B,.e 0 0],[.a false [.w,.w,.E]]=>.g (.a (.p false) [.a false [.w,.w,.E]])
 | [.e 0 0,.A [.d 43 _,.d 48 _,.J 36 _ _]],[.a false [.w,.w,.E]]=>.g (.a (.p false) [.a false [.w,.w,.E]])
 | [.A [.d 43 _,.d 48 _,.J 36 _ _],.e 0 0],[.a false [.w,.w,.E]]=>.g (.a (.p false) [.a false [.w,.w,.E]])
 |_,_=>.d
def aIn:aH 6 Xu:=bI (aA HG (aA atZ aQ)) aDA λp q r h=>by
 unfold Xu at h;split at h
 ·exact(aIe ()).trans h
 ·exact(aIf _ _ _ _ _ _ _ _).trans h
 ·exact(aIg _ _ _ _).trans h
 ·exact(aIh _ _ _ _).trans h
 ·exact(aIi ()).trans h
 ·exact(aIj ()).trans h
 ·exact(aIk ()).trans h
 ·exact(aIl _ _ _ _).trans h
 ·exact(aIm _ _ _ _).trans h
 ·cases h
def zg:FuncId->aq:=aL [(14,MV)]
def aIo(u:Unit):(aI (ay an zg Kf aK) false f9 [.B] []).D=((af.g (aC.a (aa.u [aa.w]) []))).D:=ae
def aIp(u:Unit):(aI (ay an zg Kf aK) false f9 [.e 0 0] [az [.w,.w,.E]]).D=((af.g (aC.a (aa.u [aa.w]) [aj.a false [aa.w,aa.w,aa.E]]))).D:=ae
def aIq(nm):(aI (ay an zg Kg aK) false f7 [.B,.h nm] []).D=((af.g (aC.a (aa.q [aa.u [aa.h [],aa.w,aa.c IntKind.i64 (0:Int),aa.w,aa.c IntKind.i64 (0:Int)],aa.p false]) []))).D:=ae
def aIr(nm):(aI (ay an zg Kg aK) false f7 [.e 0 0,.h nm] [az [.w,.w,.E]]).D=((af.g (.a (.q [.u [.h [],.w,ah 0,.w,ah 0],.p false]) [az [.w,.w,.E]]))).D:=ae
def aIs(nm):(aI (ay an zg Kh aK) false f11 [.B,.h nm] []).D=((af.g (aC.a (aa.d (nat_lit 72) []) []))).D:=ae
def aIt(nm):(aI (ay an zg Kh aK) false f11 [.e 0 0,.h nm] [az [.w,.w,.E]]).D=((af.g (aC.a (aa.d (nat_lit 72) []) [aj.a false [aa.w,aa.w,aa.E]]))).D:=ae
def aIu(nm):(aI (ay an zg Ki aK) false f8 [.B,.h nm] []).D=((af.g (aC.a (aa.q [aa.u [aa.h [],aa.w,aa.c IntKind.i64 (0:Int)],aa.p false]) []))).D:=ae
def aIv(nm):(aI (ay an zg Ki aK) false f8 [.e 0 0,.h nm] [az [.w,.w,.E]]).D=((af.g (.a (.q [.u [.h [],.w,ah 0],.p false]) [az [.w,.w,.E]]))).D:=ae
def kX:List UInt8:=[102,117,110,99,32,109,97,105,110,40,41,32,123,32,118,97,114,32,120,32,105,110,116,59,32,120,32,61,32,49,59,32,112,114,105,110,116,32,120,59,32,125]
def aiV:List UInt8:=[102,117,110,99,32,109,97,105,110,40,41,32,123,32,118,97,114,32,120,32,105,110,116,59,32,112,114,105,110,116,32,120,59,32,125]
def aiW:List UInt8:=[102,117,110,99,32,102,40,41,32,123,32,125]
def aiX:List UInt8:=[102,117,110,99,32,109,97,105,110,40,110,32,105,110,116,41,32,123,32,125]
def aiY:List UInt8:=[102,117,110,99,32,109,97,105,110,40,41,32,123,32,125,32,102,117,110,99,32,102,40,41,32,123,32,125,32,102,117,110,99,32,102,40,41,32,123,32,125]
def aiZ:List UInt8:=[102,117,110,99,32,109,97,105,110,40,41,32,123,32,112,114,105,110,116,32,121,59,32,125]
def ai0:List UInt8:=[102,117,110,99,32,109,97,105,110,40,41,32,123,32,120,40,41,59,32,125]
def ai1:List UInt8:=[102,117,110,99,32,109,97,105,110,40,41,32,123,32,120,32,61,32,49,59,32,125]
def ai2:List UInt8:=[102,117,110,99,32,109,97,105,110,40,41,32,123,32,118,97,114,32,120,32,105,110,116,32,61,32,116,114,117,101,59,32,125]
def ai3:List UInt8:=[102,117,110,99,32,109,97,105,110,40,41,32,123,32,105,102,32,49,32,123,32,125,32,125]
def ai4:List UInt8:=[102,117,110,99,32,109,97,105,110,40,41,32,123,32,114,101,116,117,114,110,32,49,59,32,125]
def ai5:List UInt8:=[102,117,110,99,32,102,40,41,32,105,110,116,32,123,32,105,102,32,116,114,117,101,32,123,32,114,101,116,117,114,110,32,49,59,32,125,32,125,32,102,117,110,99,32,109,97,105,110,40,41,32,123,32,125]
def ai6:List UInt8:=[102,117,110,99,32,109,97,105,110,40,41,32,123,32,118,97,114,32,120,32,105,110,116,32,61,32,49,59,32,118,97,114,32,120,32,105,110,116,32,61,32,50,59,32,125]
def ai7:List UInt8:=[102,117,110,99,32,102,40,97,32,105,110,116,44,32,97,32,105,110,116,41,32,123,32,125,32,102,117,110,99,32,109,97,105,110,40,41,32,123,32,125]
def ai8:List UInt8:=[102,117,110,99,32,109,97,105,110,40,41,32,123,32,123,32,125]
def oW(p:aa)(nm:List UInt8)(no l c e:Int):aC:=.a (.q [p,.u [.h nm,.c .i64 no],.u [.c .i64 l,.c .i64 c],.c .i64 e]) []
def mz(a b c d:List aa):List (List UInt8×aC):=[(kX,oW (.A [.d 43 a,.d 48 b,.J 36 c d]) [] (0) 0 0 0),(aiV,oW .B [109,97,105,110] (1) 0 0 13),(aiW,oW .B [] (-1) 0 0 15),(aiX,oW .B [] (-1) 0 0 15),(aiY,oW .B [102] (-1) 0 0 11),(aiZ,oW .B [109,97,105,110] (0) 0 0 11),(ai0,oW .B [109,97,105,110] (0) 0 0 11),(ai1,oW .B [109,97,105,110] (0) 0 0 11),(ai2,oW .B [109,97,105,110] (0) 0 0 12),(ai3,oW .B [109,97,105,110] (0) 0 0 12),(ai4,oW .B [109,97,105,110] (0) 0 0 12),(ai5,oW .B [102] (2) 0 0 14),(ai6,oW .B [109,97,105,110] (1) 0 0 11),(ai7,oW .B [102] (-1) 0 0 11),(ai8,oW .B [] 0 1 15 7)]
def MW:List UInt8->List UInt8->Bool
 | [],[]=>true
 |a::r,b::q=>Nat.beq a.toNat b.toNat &&MW r q
 |_,_=>false
def ai9:∀{a b:List UInt8},MW a b=true->a=b
 | [],[],_=>rfl
 |a::r,b::q,h=>by rw[MW,au]at h;rw[ai9 h.2,UInt8.toNat_inj.1 (iZ h.1)]
 | [],_::_,h=>by cases h
 |_::_,[],h=>by cases h
def MX:List (List UInt8×aC)->List UInt8->af aC
 | [],_=>.d
 |p::r,s=>(match MW p.1 s with |true=>.g p.2 |false=>MX r s)
def ai_{o:aC}{s}:∀{l:List (List UInt8×aC)},(MX l s).D=some o->∃p∈l,p.1=s/\p.2=o
 | [],h=>by cases h
 |p::r,h=>by
  unfold MX at h;split at h
  ·rename_i hb;cases h;exact⟨p,aB,ai9 hb,rfl⟩
  ·obtain⟨q,h1,h2⟩:=ai_ h;exact⟨q,by simp[h1],h2⟩
def Xv(a b c d:List aa):aq| [.h s],[]=>MX (mz a b c d) s |_,_=>.d
def mA:List aa:=fP (ig kX).1
def mB:List aa:=(ey (ig kX).1).1
def mC:List aa:=MT (ig kX).1
def mD:List aa:=MU (ig kX).1
def aIw:(lV [.h kX] []).D=some ((mz mA mB mC mD)[0]?.getD (kX,.a .m [])).2:=ae
def aIx:(lV [.h aiV] []).D=some ((mz mA mB mC mD)[1]?.getD (kX,.a .m [])).2:=ae
def aIy:(lV [.h aiW] []).D=some ((mz mA mB mC mD)[2]?.getD (kX,.a .m [])).2:=ae
def aIz:(lV [.h aiX] []).D=some ((mz mA mB mC mD)[3]?.getD (kX,.a .m [])).2:=ae
def aIA:(lV [.h aiY] []).D=some ((mz mA mB mC mD)[4]?.getD (kX,.a .m [])).2:=ae
def aIB:(lV [.h aiZ] []).D=some ((mz mA mB mC mD)[5]?.getD (kX,.a .m [])).2:=ae
def aIC:(lV [.h ai0] []).D=some ((mz mA mB mC mD)[6]?.getD (kX,.a .m [])).2:=ae
def aID:(lV [.h ai1] []).D=some ((mz mA mB mC mD)[7]?.getD (kX,.a .m [])).2:=ae
def aIE:(lV [.h ai2] []).D=some ((mz mA mB mC mD)[8]?.getD (kX,.a .m [])).2:=ae
def aIF:(lV [.h ai3] []).D=some ((mz mA mB mC mD)[9]?.getD (kX,.a .m [])).2:=ae
def aIG:(lV [.h ai4] []).D=some ((mz mA mB mC mD)[10]?.getD (kX,.a .m [])).2:=ae
def aIH:(lV [.h ai5] []).D=some ((mz mA mB mC mD)[11]?.getD (kX,.a .m [])).2:=ae
def aII:(lV [.h ai6] []).D=some ((mz mA mB mC mD)[12]?.getD (kX,.a .m [])).2:=ae
def aIJ:(lV [.h ai7] []).D=some ((mz mA mB mC mD)[13]?.getD (kX,.a .m [])).2:=ae
def aIK:(lV [.h ai8] []).D=some ((mz mA mB mC mD)[14]?.getD (kX,.a .m [])).2:=ae
def aIL:∀p∈mz mA mB mC mD,(lV [.h p.1] []).D=some p.2:=by
 intro p hp;simp only[mz,jc,oZ,og]at hp;rcases hp with rfl |rfl |rfl |rfl |rfl |rfl |rfl |rfl |rfl |rfl |rfl |rfl |rfl |rfl |rfl
 ·exact aIw
 ·exact aIx
 ·exact aIy
 ·exact aIz
 ·exact aIA
 ·exact aIB
 ·exact aIC
 ·exact aID
 ·exact aIE
 ·exact aIF
 ·exact aIG
 ·exact aIH
 ·exact aII
 ·exact aIJ
 ·exact aIK
def aIM:aH 5 (Xv mA mB mC mD):=λq r u h=>by
 unfold Xv at h;split at h
 ·obtain⟨p,h1,rfl,rfl⟩:=ai_ h;exact aiU _ _ _ (aIL p h1)
 ·cases h
def aIN:=aR 4 Kj ae
def ai'(a b c d:List aa):FuncId->aq:=aL [(5,Xv a b c d)]
def aIO(a b c d):(aI (ay an (ai' a b c d) Kj (cG an (ai' a b c d) Kj 20 20).d) false f4 [] []).D=((af.g (aC.a (aa.p true) []))).D:=ae
def Xw:aq| [],[]=>.g (.a (.p true) []) |_,_=>.d
def aIP:aH 4 Xw:=dN aW c_ (aA aIM aQ) aIN rfl (sH 20) λp q r h=>by
 unfold Xw at h;split at h
 ·exact(aIO mA mB mC mD).trans h
 ·cases h
def Bp:=aR 3 mo ae
def Xx:aq
 | [.B],[]=>.g (.a (.u [.w]) [])
 | [.e 0 0],[.a false [.w,.w,.E]]=>.g (.a (.u [.w]) [.a false [.w,.w,.E]])
 |_,_=>.d
def aIQ:aH 9 Xx:=bI (aA HG aQ) aDB λp q r h=>by
 unfold Xx at h;split at h
 ·exact(aIo ()).trans h
 ·exact(aIp ()).trans h
 ·cases h
def Xy:aq
 | [.B,.h _],[]=>.g (.a (.q [.u [.h [],.w,.c .i64 0,.w,.c .i64 0],.p false]) [])
 | [.e 0 0,.h _],[.a false [.w,.w,.E]]=>.g (.a (.q [.u [.h [],.w,.c .i64 0,.w,.c .i64 0],.p false]) [.a false [.w,.w,.E]])
 |_,_=>.d
def aIR:aH 7 Xy:=bI (aA HG aQ) aDC λp q r h=>by
 unfold Xy at h;split at h
 ·exact(aIq _).trans h
 ·exact(aIr _).trans h
 ·cases h
def Xz:aq
 | [.B,.h _],[]=>.g (.a (.d 72 []) [])
 | [.e 0 0,.h _],[.a false [.w,.w,.E]]=>.g (.a (.d 72 []) [.a false [.w,.w,.E]])
 |_,_=>.d
def aIS:aH 11 Xz:=bI (aA HG aQ) aDD λp q r h=>by
 unfold Xz at h;split at h
 ·exact(aIs _).trans h
 ·exact(aIt _).trans h
 ·cases h
def XA:aq
 | [.B,.h _],[]=>.g (.a (.q [.u [.h [],.w,.c .i64 0],.p false]) [])
 | [.e 0 0,.h _],[.a false [.w,.w,.E]]=>.g (.a (.q [.u [.h [],.w,.c .i64 0],.p false]) [.a false [.w,.w,.E]])
 |_,_=>.d
def aIT:aH 8 XA:=bI (aA HG aQ) aDE λp q r h=>by
 unfold XA at h;split at h
 ·exact(aIu _).trans h
 ·exact(aIv _).trans h
 ·cases h
def aIU:(sE an 300 8 10 [.u [.h [],.d 3 [],ah 0],.u [.h [],.d 3 [],ah 0]] []).D=some (.a (.p true) []):=ae
def XB:aq
 | [.u [.h [],.d 3 [],.c .i64 0],.u [.h [],.d 3 [],.c .i64 0]],[]=>.g (.a (.p true) [])
 |_,_=>.d
def aIV:aH 10 XB:=λp q r h=>by
 unfold XB at h;split at h
 ·cases h;exact AJ 8 _ _ _ _ aIU
 ·cases h
def uY:FuncId->aq:=aL [(4,Xw),(5,lV),(6,Xu),(7,Xy),(8,XA),(9,Xx),(11,Xz),(10,XB)]
def aIW(nm)(a b c d:List aa):(cB (ay an uY mo aK) 0 8 (cq mo 0) [.h nm,.B,.G 23 0 2,ah 2,ah 0] [az [.B,.e 1 0],az [.w,.w,.E]]).D=((af.g ((.b,[.h nm,.B,.G 23 0 2,ah 2,ah (i64.wrap ((0:Int)+1))],[az [.B,.e 1 0],az [.w,.w,.E]])))).D:=ae
def aIX(nm)(a b c d:List aa):(cB (ay an uY mo aK) 0 8 (cq mo 0) [.h nm,.B,.G 23 0 2,ah 2,ah 1] [az [.B,.e 1 0],az [.w,.w,.E]]).D=((af.g ((.b,[.h nm,.B,.G 23 0 2,ah 2,ah (i64.wrap ((1:Int)+1))],[az [.B,.e 1 0],az [.w,.w,.E]])))).D:=ae
def aIY(nm)(a b c d:List aa):(cB (ay an uY mo aK) 0 8 (cq mo 0) [.h nm,.B,.G 23 0 2,ah 2,ah 2] [az [.B,.e 1 0],az [.w,.w,.E]]).D=((af.g ((.a 0,[.m],[])))).D:=ae
def aIZ(nm:List UInt8)(a b c d:List aa):bw an uY mo 0 8 [.h nm,.B,.G 23 0 2,.c .i64 2,.c .i64 0] [.a false [.B,.e 1 0],.a false [.w,.w,.E]] (.a 0,[.m],[]):=
 bw.D Bp 0 ae ae cv ((aIW nm a b c d).trans rfl) (y:=(.b,[.h nm,.B,.G 23 0 2,.c .i64 2,.c .i64 1],[.a false [.B,.e 1 0],.a false [.w,.w,.E]]))
  (bw.D Bp 0 ae ae cv ((aIX nm a b c d).trans rfl) (y:=(.b,[.h nm,.B,.G 23 0 2,.c .i64 2,.c .i64 2],[.a false [.B,.e 1 0],.a false [.w,.w,.E]]))
   (bw.D Bp 0 ae ae cv ((aIY nm a b c d).trans rfl) (y:=(.a 0,[.m],[])) rfl))
def aI0(nm a b c d):(cB (ay an uY mo aK) 0 8 (cq mo 0) [.h nm,.A [.d 43 a,.d 48 b,.J 36 c d],.G 23 0 2,ah 2,ah 0] [az [.B,.e 1 0],az [.w,.w,.E]]).D=((af.g ((.b,[.h nm,.A [.d 43 a,.d 48 b,.J 36 c d],.G 23 0 2,ah 2,ah (i64.wrap ((0:Int)+1))],[az [.B,.e 1 0],az [.w,.w,.E]])))).D:=ae
def aI1(nm a b c d):(cB (ay an uY mo aK) 0 8 (cq mo 0) [.h nm,.A [.d 43 a,.d 48 b,.J 36 c d],.G 23 0 2,ah 2,ah 1] [az [.B,.e 1 0],az [.w,.w,.E]]).D=((af.g ((.b,[.h nm,.A [.d 43 a,.d 48 b,.J 36 c d],.G 23 0 2,ah 2,ah (i64.wrap ((1:Int)+1))],[az [.B,.e 1 0],az [.w,.w,.E]])))).D:=ae
def aI2(nm a b c d):(cB (ay an uY mo aK) 0 8 (cq mo 0) [.h nm,.A [.d 43 a,.d 48 b,.J 36 c d],.G 23 0 2,ah 2,ah 2] [az [.B,.e 1 0],az [.w,.w,.E]]).D=((af.g ((.a 0,[.m],[])))).D:=ae
def aI3(nm a b c d):bw an uY mo 0 8 [.h nm,.A [.d 43 a,.d 48 b,.J 36 c d],.G 23 0 2,.c .i64 2,.c .i64 0] [.a false [.B,.e 1 0],.a false [.w,.w,.E]] (.a 0,[.m],[]):=
 bw.D Bp 0 ae ae cv ((aI0 nm a b c d).trans rfl) (y:=(.b,[.h nm,.A [.d 43 a,.d 48 b,.J 36 c d],.G 23 0 2,.c .i64 2,.c .i64 1],[.a false [.B,.e 1 0],.a false [.w,.w,.E]]))
  (bw.D Bp 0 ae ae cv ((aI1 nm a b c d).trans rfl) (y:=(.b,[.h nm,.A [.d 43 a,.d 48 b,.J 36 c d],.G 23 0 2,.c .i64 2,.c .i64 2],[.a false [.B,.e 1 0],.a false [.w,.w,.E]]))
   (bw.D Bp 0 ae ae cv ((aI2 nm a b c d).trans rfl) (y:=(.a 0,[.m],[])) rfl))
def XC:dk:=λm_ key vs os=>match vs,os with
 | [.h _,.B,.G 23 0 2,.c .i64 2,.c .i64 0],[.a false [.B,.e 1 0],.a false [.w,.w,.E]]=>.I (Nat.beq m_ 0 &&Nat.beq key 8) (.g (.a 0,[.m],[]))
 | [.h _,.A [.d 43 _,.d 48 _,.J 36 _ _],.G 23 0 2,.c .i64 2,.c .i64 0],[.a false [.B,.e 1 0],.a false [.w,.w,.E]]=>.I (Nat.beq m_ 0 &&Nat.beq key 8) (.g (.a 0,[.m],[]))
 |_,_=>.d
def aI4:cJ an uY mo XC:=by
 intro m_ key vs os r h;unfold XC at h;split at h
 ·obtain⟨h1,h2⟩:=aO h;rw[au]at h1;obtain rfl:=aV h1.1;obtain rfl:=aV h1.2;cases h2;exact aIZ _ [] [] [] []
 ·obtain⟨h1,h2⟩:=aO h;rw[au]at h1;obtain rfl:=aV h1.1;obtain rfl:=aV h1.2;cases h2;exact aI3 _ _ _ _ _
 ·simp[af.D]at h
def aI5(nm s):(aI (ay an uY mo XC) false f3 [.h nm,.h s] []).D=((letI ai:af aC:=al (.p true) [];letI ak:af aC:=al (.p false) [];af.c (decide ((↑s.length:Int)>2500)) ai (.c ((ig s).snd.snd !=0) (.c ((ig s).snd.snd==0) ak ai) (.c (oV (ig s).fst) (.c (!AS (fP (ig s).fst) (fP (ig s).fst)) ak ai) (.c ((ng (ig s).fst).snd==0) ak ai)))):af aC).D:=ae
def zh{p:aa->aa->Bool}:∀{l:List aa},(∀v∈l,p v v=true)->cf p l l=true
 | [],_=>rfl
 |v::r,h=>by rw[cf,h v (HS ..),qJ];exact zh λu hu=>h u (oX _ hu)
def aja:∀(m:Nat)(e:aa),AP m e=true->AQ m e e=true
 |0,e,h=>h
 |m+1,e,h=>by have h1:=List.all_eq_true.1 (sI.1 h).2;rw[AQ,zh (λv hv=>aja m (bB v) (h1 v hv))];simp
def aI6{m:Nat}(h:iS (oI m) l=true):cf (lN m) l l=true:=zh λv hv=>aja m (bB v) (List.all_eq_true.1 (sI.1 h).2 v hv)
def XD:∀(m:Nat)(s:aa),AR m s=true->yK m s s=true
 |0,s,h=>h
 |m+1,s,h=>by rw[AR,au,au]at h;have h1:=List.all_eq_true.1 (sI.1 h.1.2).2;have h2:=List.all_eq_true.1 (sI.1 h.2).2;rw[yK,aI6 h.1.1,zh (λv hv=>XD m (dV v) (h1 v hv)),zh (λv hv=>XD m (dV v) (h2 v hv))];simp
def aI7{f}(h:kN f=true):oJ f f=true:=by
 have h1:fm (fo f) (iE f) (jY f) (eJ f)=true:=by unfold kN at h;rw[au,au]at h;exact h.1.1
 have h2:=(Dt h1).1;show Gx (lP f) (lP f)=true;unfold lP;rw[aek,h1,zh (p:=kO 20) (λv hv=>XD 20 (dV v) (List.all_eq_true.1 (sI.1 h2).2 v hv)),zh (p:=nS) (λv _=>by unfold nS;simp)];simp
def aI8(h:bF l=true):AS l l=true:=by unfold AS;rw[h];unfold bF at h;rw[au]at h;rw[zh λv hv=>aI7 (List.all_eq_true.1 h.2 v hv)];rfl
def ajb{sg}:∀(fs:List aa)(a:zf),match cR (Bo sg) fs a with | .inl q=>(q.2.2.2==(0:Int))=false | .inr _=>True
 | [],a=>trivial
 |f::r,a=>by
  rw[cR];unfold Bo;cases h:(Bn sg f).2.2 !=0 with
  |true=>show((Bn sg f).2.2==(0:Int))=false;rw[bne,kr]at h;exact h
  |false=>exact ajb r _
def aI9(h:oV fs=false):((ng fs).2==(0:Int))=false:=by
 unfold oV at h;unfold ng;cases hp:bF fs with
 |false=>rfl
 |true=>
  rw[hp]at h;cases h2:(ey fs).2.2==0 with
  |true=>
   rw[h2]at h;have key:=ajb (sg:=(ey fs).1) (fP fs) ⟨[],[]⟩;unfold kW at h⊢;cases hg:cR (Bo (ey fs).1) (fP fs) ⟨[],[]⟩with
   |inl q=>rw[hg]at key;exact key
   |inr a=>rw[hg]at h;cases h
  |false=>show((bif (ey fs).2.2==11 then((fo (fs.getD (ey fs).2.1.toNat .m),(-1:Int)),(ey fs).2.2)else(([], -1),(ey fs).2.2)).2==(0:Int))=false;cases(ey fs).2.2==11<;>exact h2
def XE:aq| [.h _,.h _],[]=>.g (.a (.p true) []) |_,_=>.d
def aI_:aH 3 XE:=dN aW c_ (aA aIP (aA aiU (aA aIn (aA aIR (aA aIT (aA aIQ (aA aIS (aA aIV aQ)))))))) Bp rfl aI4 λp q u h=>by
 unfold XE at h;split at h
 ·rename_i nm s;refine(aI5 nm s).trans (bS ?_ h);have ht:∀{β:Type}{b:Bool}{t e:af β}{r:Option β},(b=true->t.D=r)->(b=false->e.D=r)->(af.c b t e).D=r:=fun {β b t e r} h1 h2=>by
   cases b with
   |true=>exact h1 rfl
   |false=>exact h2 rfl
  refine ht (λ_=>rfl) λ_=>ht (λh1=> ?_) λ_=>ht (λh1=> ?_) λh1=> ?_
  ·rw[bne,kr]at h1;exact kK h1 rfl
  ·refine kK ?_ rfl;unfold oV at h1;rw[au,au]at h1;rw[aI8 (aiQ h1.1.1)];rfl
  ·exact kK (aI9 h1) rfl
 ·cases h
end
end Go.Proofs.YtkcikbcpjdccmaaGreatDoor
namespace Go.Proofs.YtkcikbcpjdccmaaGreatDoor
open Go Go.AH Go.ChangeShapes Go.WideShapes Go.ChangeAt Go.RowKit Go.Proofs.Tryz
open Go.IntKind (i64)
noncomputable section
variable{W:World}
def aI':ownKnob prog.godebug=none:=ae
def aJa:laidOutB prog=true:=ae
def Ej:DataW Unit->List (List UInt8)
 | .agg ds=>ds.map λd=>match d with | .lit (.string s)=>s |_=> []
 |_=> []
def MY:DataW Unit->List Int
 | .agg ds=>ds.map λd=>match d with | .lit (.int _ n)=>n |_=>0
 |_=> []
def XF:List UInt8:=[114,101,119,105,110,100,47,100,101,102,105,110,105,116,101,46,100,101,99,108,97,114,101,115]
def Ek:List UInt8:=[114,101,119,105,110,100,47,100,101,102,105,110,105,116,101,46,97,108,119,97,121,115]
def ajc:List UInt8:=[105,110,118,97,108,105,100,32,115,121,110,116,97,120]
def ajd:List UInt8:=[118,97,108,117,101,32,111,117,116,32,111,102,32,114,97,110,103,101]
def HH:List (Option (FuncId×List UInt8)):=[none,some (310,XF),some (311,Ek),none,some (311,Ek),some (311,Ek),none,some (311,Ek),none]
def aJb:cO 0=.A ((Ej Rows.laid_rewind_lexeme_signs).map aa.h):=ae
def aJc:cO 1=.A ((Ej Rows.laid_rewind_lexeme_keywords).map aa.h):=ae
def aJd:cO 3=.A ((Ej Rows.laid_rewind_stmt_words).map aa.h):=ae
def aJe:cO 4=.A (HH.map PY):=ae
def aJf:cO 5=.A ((MY Rows.laid_strings_asciiSpace).map (aa.c .u8)):=ae
def aJg:cO 7=.A [.C 358 (.A [.h ajc])]:=ae
def aJh:cO 8=.A [.C 358 (.A [.h ajd])]:=ae
def aJi:cO 9=.A ((MY Rows.laid_internal_strconv_uint64pow10).map (aa.c .u64)):=ae
def aJj:(Rows.laid_rewind_lexeme_signs:DataW Unit)=.agg ((Ej Rows.laid_rewind_lexeme_signs).map λs=>.lit (.string s)):=ae
def aJk:(Rows.laid_rewind_lexeme_keywords:DataW Unit)=.agg ((Ej Rows.laid_rewind_lexeme_keywords).map λs=>.lit (.string s)):=ae
def aJl:(Rows.laid_rewind_stmt_words:DataW Unit)=.agg ((Ej Rows.laid_rewind_stmt_words).map λs=>.lit (.string s)):=ae
def aJm:(Rows.laid_strings_asciiSpace:DataW Unit)=.agg ((MY Rows.laid_strings_asciiSpace).map λs=>.lit (.int .u8 s)):=ae
def aJn:(Rows.laid_internal_strconv_uint64pow10:DataW Unit)=.agg ((MY Rows.laid_internal_strconv_uint64pow10).map λs=>.lit (.int .u64 s)):=ae
def XG:DataW Unit:=match(Rows.laid_rewind_definite_effects:DataW Unit)with | .iface _ d=>d |d=>d
def aJo:(Rows.laid_rewind_definite_effects:DataW Unit)=.iface "func table" XG:=ae
def aJp:XG.funcsOut=.agg (HH.map J5):=ae
def aJq:((List.range prog.funcs.size).filter λf=>(prog.funcs[f]?).any (·.name.toUTF8.data.toList==XF))=[310]:=ae
def aJr:((List.range prog.funcs.size).filter λf=>(prog.funcs[f]?).any (·.name.toUTF8.data.toList==Ek))=[311]:=ae
def aJs:∀x,some x∈HH->x.2≠ []/\((List.range prog.funcs.size).filter λf=>(prog.funcs[f]?).any (·.name.toUTF8.data.toList==x.2))=[x.1]:=by
 intro x hx;have h:x=(310,XF)\/x=(311,Ek):=by
  simp only[HH,jc,Option.some.injEq,List.mem_nil_iff,og,reduceCtorEq,false_or]at hx;rcases hx with h |h |h |h |h
  ·exact Or.inl h
  all_goals exact Or.inr h
 rcases h with rfl |rfl
 ·exact⟨av,aJq⟩
 ·exact⟨av,aJr⟩
abbrev Bt:List (String×DataW Unit):=Rows.checkNilRow.laid.filter λx=>x.2.handleName?.isNone
def aJt:("rewind/lexeme.signs",Rows.laid_rewind_lexeme_signs)∈Bt:=List.mem_filter.2 ⟨by simp[Rows.checkNilRow],rfl⟩
def aJu:("rewind/lexeme.keywords",Rows.laid_rewind_lexeme_keywords)∈Bt:=List.mem_filter.2 ⟨by simp[Rows.checkNilRow],rfl⟩
def aJv:("rewind/stmt.words",Rows.laid_rewind_stmt_words)∈Bt:=List.mem_filter.2 ⟨by simp[Rows.checkNilRow],rfl⟩
def aJw:("strings.asciiSpace",Rows.laid_strings_asciiSpace)∈Bt:=List.mem_filter.2 ⟨by simp[Rows.checkNilRow],rfl⟩
def aJx:("internal/strconv.uint64pow10",Rows.laid_internal_strconv_uint64pow10)∈Bt:=List.mem_filter.2 ⟨by simp[Rows.checkNilRow],rfl⟩
def aJy:("rewind/definite.effects",DataW.iface "func table" XG)∈Rows.checkNilRow.laid:=by rw[<-aJo];simp[Rows.checkNilRow]
def aJz(h:laidMetH prog Rows.checkNilRow.laid W):laidMet prog Bt W:=(show laidMet prog Bt W/\handlesMet prog _ W from h).1
def aje: "*" ++ "errors.errorString" = "*errors.errorString" :=av
def aJA(u:TypeId)(h:prog.typeName? 3 u=some "*errors.errorString"):u=358:=
 typeName_ptr_named (nm:= "errors.errorString") (by rw[aje];kernel_rfl) ae av u (by rw[aje];exact h)
def aJB:∃f:Field,prog.underlying 360=some (.struct #[f])/\f.type=9/\f.offset=0:=⟨_,(by kernel_rfl:prog.underlying 360=some (.struct #[{name:= "s",type:=9,offset:=0,embedded:=false,tag:= "",pkgPath:= "errors",byteOffset:=0}])),rfl,rfl⟩
def ajf{O}(hO:∀b,¬O b){n:String}{text}{r:List (String×DataW Unit)}{g:Nat}(h:laidMet prog ((n,.iface "*errors.errorString" (.ptr (.agg [.lit (.string text)])))::r) W)
  (hg:prog.globalNamed n=some g)(ht:(prog.globals[g]?).map (·.type)=some 188):dU aJ W O (.A [.C 358 (.A [.h text])]) g:=by
 obtain⟨f,hf,h1,h2⟩:=aJB;obtain⟨a,s,hv,hc,hs,_⟩:=laid_sentinel h hg ht (show prog.underlying 188=some (.interface #[("Error",251)])from ae) aJA (show prog.underlying 358=some (.pointer 360)from ae) hf h1 h2 (show prog.underlying 9=some .string from ae) ae ae;refine J4 hO hg hv ⟨_,[],rfl,⟨_,rfl,?_⟩,rfl⟩;obtain⟨b,o,e⟩:=a;cases e with
 |some e=>simp[World.cell?]at hc;split at hc<;>cases hc
 |none=>exact⟨b,o,[.string s],rfl,aiI hc,hO b,uO hc,_,[],rfl,⟨s,rfl,hs⟩,rfl⟩
def aJC(h:laidMetH prog Rows.checkNilRow.laid W):∀(O:Nat->Prop),(∀b,¬O b)->∀g,dU aJ W O (cO g) g:=by
 intro O hO;have hp:=aJz h;have h8:dU aJ W O (cO 8) 8:=aJh▸ajf hO (n:= "strconv.ErrRange") (text:=ajd) hp.tail.tail.tail.tail ae ae;have h7:dU aJ W O (cO 7) 7:=aJg▸ajf hO (n:= "strconv.ErrSyntax") (text:=ajc) hp.tail.tail.tail.tail.tail ae ae;obtain⟨ps,hL,_⟩:=hp;have h0:dU aJ W O (cO 0) 0:=aJb▸PX hO hL (t:=141) (e:=9) (m:=23) _ aJt aJj ae ae ae ae ae ae;have h1:dU aJ W O (cO 1) 1:=aJc▸PX hO hL (t:=186) (e:=9) (m:=15) _ aJu aJk ae ae ae ae ae ae;have h3:dU aJ W O (cO 3) 3:=aJd▸PX hO hL (t:=244) (e:=9) (m:=4) _ aJv aJl ae ae ae ae ae ae;have h5:dU aJ W O (cO 5) 5:=aJf▸acb hO hL (t:=271) (e:=5) (m:=256) .u8 _ aJw aJm ae ae ae ae ae ae;have h9:dU aJ W O (cO 9) 9:=aJi▸acb hO hL (t:=328) (e:=277) (m:=20) .u64 _ aJx aJn ae ae ae ae ae ae;have h4:dU aJ W O (cO 4) 4:=aJe▸aol hO (h.funcs aJy) (t:=263) (e:=262) (m:=9) HH aJp ae ae ae underlying262 ae ae aJs;intro g;unfold cO;split
 ·exact h0
 ·exact h1
 ·exact h3
 ·exact h4
 ·exact h5
 ·exact h7
 ·exact h8
 ·exact h9
 ·exact⟨trivial,trivial⟩
section
variable{H:Type}{enc:TypeId×Value->H}{W:World}{v:Value}{d:DataW H}{p:List MemPlace}
set_option maxRecDepth 100000 in
def ajg(hv:Value.okWide prog W .any 0 9 v):∃s:List UInt8,ax aJ W (λ_=>False) (.h s) bh v:=by obtain⟨s,rfl⟩:=okWide_string underlying9 hv;exact⟨_,s,rfl,rfl⟩
end
set_option maxRecDepth 100000 in
def aJD(H:Type)(enc:TypeId×Value->H)(W)(base:Nat)(args)(ds gs:List (DataW H))(before:List MemPlace)
  (Oh:∀(j:Nat) t v,f3.params[j]? =some t->args[j]? =some v->Value.okWide prog W .any 0 t v)
  (hW:DataW.Whole enc prog f3.params.toList Rows.checkNilSpec.vars false W args.toList ds gs before)(hL:laidMetH prog Rows.checkNilRow.laid W):
  Calls prog 3 args W λe W'=>∃v,e=.returned v/\Rows.checkNilSpec.post enc prog f3 false true false false W args v W':=by
 have hW':=hW;obtain⟨p,q,ak4,hV,rfl,ajI,cP⟩:=hW;have Oc:=ak4;have hA:DataW.TrodAll enc prog W 0 (λ_=>true) true f3.params.toList args.toList ds p:=ak4;rw[params3]at hA Oh;obtain⟨v0,v1,dx0,dx1,p0,p1,rfl,rfl,rfl,h0,h1⟩:=trodAll_two hA;obtain⟨rfl,rfl⟩:=trodVars_none hV;obtain⟨nm,r0⟩:=ajg (Oh 0 9 v0 rfl rfl);obtain⟨tx,r1⟩:=ajg (Oh 1 9 v1 rfl rfl);clear Oh;have cC:=hW'.lt;simp only[zk]at hW' cC;refine(aon (b:=true) (C:=XE) (args:=[.h nm,.h tx]) func3 ae (c:=(f3.body).getD .skip) ae aI_ (aJC hL)
  ⟨_,_,rfl,r0,⟨_,_,rfl,r1,rfl⟩⟩ rfl).mono λe W' ⟨he,hb⟩=> ?_
 subst he;exact⟨_,rfl,aoo (pv:=[]) hW' (λ_ _ _=>trodAll_mk1 (shut_bool underlying4 _))
  (λsp hs=>acd aJa _ _ _ _ ae Oc (λx hx=>hb.same (cC x hx)) (λx hx=>hs x hx)) (λ_ _=>rfl) (zk _).symm hb (ok_one ae rfl (okWide_bool_mk underlying4 _))⟩
end
end Go.Proofs.YtkcikbcpjdccmaaGreatDoor
