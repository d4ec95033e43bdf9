/- A part of the proof. -/
import Derived.Test.YtkcikbcpjdccmaaGreatDoorEC
set_option linter.all false
namespace Go.AH
open Go Go.RowKit
noncomputable section
variable{e:TypeId}{vs:List aa}{f:FuncId}{listed:Array Bool}{i:Nat}{eD:List Nat}{rZ:Nat->List Nat}{d:Nat}{x:Operand}{t:TypeId}{b:Nat}{cs:List Value}{O:Nat->Prop}{β:Nat->bd}{args:List aa}{bk:Array Value}{fn:Func}{d0:fR}{m:Nat}{ps:List MemPlace}{n:String}{g:Nat}{l:List (String×DataW Unit)}{G:Nat->aa}
section
variable{T:TypeId->bz}{G:Nat->aa}{P:Program}{Z:Nat->Prop}{β:Nat->bd}{w:World}
def JZ(i:Nat):a_ [] i=.c:=by cases i<;>rfl
def aob{en:Ending}{w':World}(he:kE T G Z [] β w (.a (.y e 0 0 vs.length) [.b false 0 e vs]) en w'):kE T G Z [] β w (.a (.d e vs) []) en w':=by
 cases en with
 |panicked chain=>obtain⟨v,mG,β',x,h1,_⟩:=he;cases h1
 |outgrown=>exact he
 |returned x=>
  obtain⟨v,mG,β',h1,gd⟩:=he;cases h1;have hk:cz w' w' (aY Z (a_ [.b false 0 e vs]) β') (aY Z (a_ []) β'):=cz.D (λb hb=>by
   rcases hb with hz | ⟨i,mi,_⟩
   ·exact .inl hz
   ·unfold cQ at mi;rw[JZ]at mi;cases mi.1)
  have none_:∀i,¬cQ (a_ []) β' i:=λi mi=>by unfold cQ at mi;rw[JZ]at mi;cases mi.1
  refine⟨_,_,β',rfl,⟨?_,?_,?_⟩⟩
  ·exact⟨λi=>by rw[JZ];trivial,λi ha=>(by rw[JZ]at ha;cases ha),λi j _ mi=>absurd mi (none_ i),gd.c.m,λi mi=>absurd mi (none_ i),λg=>dU.D hk (gd.c.n g)⟩
  ·exact⟨gd.a.f,gd.a.n,gd.a.p,gd.a.c,gd.a.d,λi mi=>absurd mi (none_ i),λi hi=>absurd hi (BD i)⟩
  ·obtain⟨ro,g',t',vs',h2,_,_,h3⟩:=gd.b;cases h2;obtain⟨_,_,rfl⟩:=h3 rfl;have dd:=gd.c.c 0;obtain⟨_,h4 | ⟨h4,cur,h5,h6,h7,h8,h9⟩⟩:=dd
   ·obtain⟨h5,h6,h7⟩:=h4;exact⟨_,_,rfl,(by rw[h6];exact ik _),.inl h6⟩
   ·refine⟨_,_,rfl,h6,.inr ⟨(β' 0).a,(β' 0).c,by simp[bd.D,h4],(Array.getElem?_eq_some_iff.1 h5).1,λho=> ?_,bN.D hk _ _ _ _ rfl h9⟩⟩;rcases ho with hz | ⟨i,mi,_⟩
    ·exact gd.c.f 0 ⟨rfl,h4⟩ hz
    ·exact none_ i mi
def J0(e:TypeId):aq
 | [.d t vs],[]=>.I (Nat.beq t e &&decide (vs.length<=eU)) (.g (.a (.d e vs) []))
 |_,_=>.d
def ab1(h:ck T G P f (kH e)):ck T G P f (J0 e):=by
 intro args ao out cM iL Z β w bk cx cN;unfold J0 at cM;split at cM
 ·rename_i t vs;obtain⟨h1,h2⟩:=aO cM;rw[au,bC]at h1;cases h2;cases vs with
  |nil=>exact h _ _ (.a (.d e []) []) rfl iL Z β w bk cx cN
  |cons v r=>refine abU (h _ _ (.a (.y e 0 0 (v::r).length) [.b false 0 e (v::r)]) ?_ iL Z β w bk cx cN) λ_ _ he=>aob he;unfold kH;simp only[h1.1];exact aZ (aD h1.2) rfl
 ·simp[af.D]at cM
end
section
variable{n:Nat}{P:Program}{ops:Array Oper}{Q:Exit->Act->World->Prop}{md:Region.Mode}
def uj(md:Region.Mode)(ops:Array Oper)(j:Nat):List Nat:=match ops[j]? with |some o=>(o.after.toList.filter (Region.binds md)).map (·.on) |none=> []
def aoc(h:i∈Region.ready md ops listed):i<ops.size/\listed.getD i true=false/\∀d∈uj md ops i,listed.getD d false=true:=by obtain⟨h1,h2,o,h3,h4⟩:=JP h;refine⟨h1,h2,λd hd=> ?_⟩;unfold uj at hd;rw[h3]at hd;obtain⟨e,he,rfl⟩:=List.mem_map.1 hd;obtain⟨he,hb⟩:=List.mem_filter.1 he;exact h4 e he hb
def aod(h1:i<ops.size)(h2:listed.getD i true=false)(h3:∀d∈uj md ops i,listed.getD d false=true):i∈Region.ready md ops listed:=by
 unfold Region.ready;refine List.mem_filter.2 ⟨List.mem_range.2 h1,?_⟩;have ho:ops[i]? =some ops[i]:=ku h1;rw[ho,h2];simp only[u_,qJ,jt,lr];rw[X3];intro e he;cases hb:Region.binds md e with
 |false=>rfl
 |true=>simp only[zm,HO];refine h3 _ ?_;unfold uj;rw[ho];exact List.mem_map.2 ⟨e,List.mem_filter.2 ⟨by simpa using he,hb⟩,rfl⟩
structure J1(md:Region.Mode)(ops:Array Oper)(eD:List Nat)(rZ:Nat->List Nat)(qY:Nat->Nat):Prop where
 b:∀j,j<ops.size->∀d∈rZ j,d∈uj md ops j
 c:∀p,p+1<eD.length->eD.getD p 0∈uj md ops (eD.getD (p+1) 0)
 a:∀j,j<ops.size->∀d∈uj md ops j,d<ops.size/\qY d<qY j
 e:∀j∈eD,j<ops.size
 f:eD.Nodup
def ab2(md:Region.Mode)(ops:Array Oper)(eD:List Nat)(rZ:Nat->List Nat)(qY:Nat->Nat):Bool:=
 ((List.range ops.size).all λj=>(rZ j).all λd=>(uj md ops j).contains d) && ((List.range (eD.length-1)).all λp=>(uj md ops (eD.getD (p+1) 0)).contains (eD.getD p 0))
 && ((List.range ops.size).all λj=>(uj md ops j).all λd=>Nat.blt d ops.size &&Nat.blt (qY d) (qY j)) && (eD.all λj=>Nat.blt j ops.size) &&decide eD.Nodup
def ab3{qY:Nat->Nat}(h:ab2 md ops eD rZ qY=true):J1 md ops eD rZ qY:=by
 unfold ab2 at h;simp only[au,bC]at h;obtain⟨⟨⟨⟨h1,h2⟩,h3⟩,h4⟩,h5⟩:=h;refine⟨λj hj d hd=> ?_,λp hp=> ?_,λj hj d hd=> ?_,λj hj=>ft (List.all_eq_true.1 h4 j hj),h5⟩
 ·have:=List.all_eq_true.1 (List.all_eq_true.1 h1 j (List.mem_range.2 hj)) d hd;simpa using this
 ·have:=List.all_eq_true.1 h2 p (List.mem_range.2 ab);simpa using this
 ·have:=List.all_eq_true.1 (List.all_eq_true.1 h3 j (List.mem_range.2 hj)) d hd;rw[au]at this;exact⟨ft this.1,ft this.2⟩
def C0(listed:Array Bool)(i j:Nat)(hi:i<listed.size)(d:Bool):(listed.setIfInBounds i true).getD j d=(if i=j then true else listed.getD j d):=by
 simp only[fh];by_cases h:i=j
 ·subst h;rw[Nj hi,if_pos rfl];rfl
 ·rw[EB h,if_neg h]
structure aoe(ops:Array Oper)(eD:List Nat)(N:Nat)(val:Nat->Nat×Value)(I:Nat->Act->World->Prop)(listed:Array Bool)(a:Act)(w:World):Prop where
 b:listed.size=ops.size
 c:∃p,p<=eD.length/\I p a w/\(∀q,q<p->listed.getD (eD.getD q 0) false=true)/\(∀q,p<=q->q<eD.length->listed.getD (eD.getD q 0) false=false)
 d:a.tmps.size=N
 e:∀j,j<ops.size->j∉eD->listed.getD j false=true->a.tmps.getD (val j).1 undef=(val j).2
def ab4{qY:Region.Mode->Nat->Nat}{N:Nat}{val:Nat->Nat×Value}{I:Nat->Act->World->Prop}{id:Nat}{a:Act}{w:World}(bH:∀md,J1 md ops eD rZ (qY md))(hN:a.tmps.size=N)
  (h0:I 0 a {w with drawn:=w.drawn+1})
  (l_:∀j,j<ops.size->(val j).1<N)(NB:∀j,j<ops.size->j∉eD->∀k,k<ops.size->k≠j->(val k).1≠(val j).1)
  (xA:∀p a w j x,j<ops.size->j∉eD->I p a w->I p (a.put (some (val j).1) x) w)
  (aLd:∀p a w j,j<ops.size->j∉eD->I p a w->a.tmps.size=N->(∀d∈rZ j,d∉eD->a.tmps.getD (val d).1 undef=(val d).2)->wpOpIn Fence.wide n P ops Q j (λa' w'=>w'=w/\a'=a.put (some (val j).1) (val j).2) a w)
  (aLe:∀p a w,p<eD.length->I p a w->a.tmps.size=N->(∀d∈rZ (eD.getD p 0),d∉eD->a.tmps.getD (val d).1 undef=(val d).2)->wpOpIn Fence.wide n P ops Q (eD.getD p 0) (λa' w'=>I (p+1) a' w'/\a'.tmps.size=N/\∀t,t≠(val (eD.getD p 0)).1->a'.tmps.getD t undef=a.tmps.getD t undef) a w)
  (eC:∀a w,I eD.length a w->Q .normal a w):(Code.region id ops true).wpIn Fence.wide n P Q a w:=by
 have eo:∀j d,(Array.replicate ops.size false).getD j d=if j<ops.size then false else d:=λj d=>by simp only[fh,X4];split<;>rfl
 refine abM λmd=> ?_;refine PK (aoe ops eD N val I) (λ_ _ _ h=>h.b) ?_ ?_ ops.size _ _ _ ⟨aB,⟨0,ik _,h0,λq hq=>absurd hq (BD q),λq _ hq=> ?_⟩,hN,λj _ _ hl=> ?_⟩ ?_
 ·intro listed a w YP i hi;obtain⟨h1,h2,h3⟩:=aoc hi;obtain⟨bE,⟨p,hp,hI,f_,Iy⟩,EW,NQ⟩:=YP;have h2':listed.getD i false=false:=by
   have cC:i<listed.size:=by rw[bE];exact h1
   simp only[fh,ku cC]at h2⊢;exact h2
  have YQ:∀d∈rZ i,d∉eD->a.tmps.getD (val d).1 undef=(val d).2:=λd hd aLf=>by have hw:=(bH md).b i h1 d hd;exact NQ d ((bH md).a i h1 d hw).1 aLf (h3 d hw)
  by_cases oq:i∈eD
  ·obtain⟨q,hq,Iz⟩:=M8 oq;have IA:eD.getD q 0=i:=by rw[dD,cV hq];exact Iz
   have aLg:q=p:=by
    rcases XZ q p with h |h |h
    ·have:=f_ q h;rw[IA,h2']at this;cases this
    ·exact h
    ·obtain⟨r,rfl⟩:∃r,q=r+1:=⟨q-1,ab⟩
     have hc:=(bH md).c r hq;rw[IA]at hc;have:=h3 _ hc;rw[Iy r ab ab]at this;cases this
   subst aLg;rw[<-IA]at YQ⊢;refine xk (λa' w' h=> ?_) (aLe q a w hq hI EW YQ);obtain⟨g1,g2,g3⟩:=h;rw[IA]at g3⊢;refine⟨by simp[bE],⟨q+1,hq,g1,λr hr=> ?_,λr NR kz=> ?_⟩,g2,λj hj j7 hl=> ?_⟩
   ·rw[C0 _ _ _ (by rw[bE];exact h1)];split
    ·rfl
    ·rename_i bL;refine f_ r ?_;rcases od r q with h |h
     ·exact h
     ·obtain rfl:r=q:=ab;exact absurd IA.symm bL
   ·rw[C0 _ _ _ (by rw[bE];exact h1),if_neg ?_]
    ·exact Iy r ab kz
    ·intro e;have Nx:eD.getD r 0=eD[r]:=by rw[dD,cV kz];rfl
     rw[<-Iz,Nx]at e;have:=(Na (bH md).f).1 e;omega
   ·rw[C0 _ _ _ (by rw[bE];exact h1)]at hl;split at hl
    ·rename_i e;subst e;exact absurd oq j7
    ·rw[g3 _ (λe=>NB j hj j7 i h1 (λe2=>by subst e2;exact j7 oq) e.symm)];exact NQ j hj j7 hl
  ·refine xk (λa' w' h=> ?_) (aLd p a w i h1 oq hI EW YQ);obtain⟨rfl,rfl⟩:=h;refine⟨by simp[bE],⟨p,hp,xA p a _ i _ h1 oq hI,λr hr=> ?_,λr NR kz=> ?_⟩,by rw[fS];exact EW,λj hj j7 hl=> ?_⟩
   ·rw[C0 _ _ _ (by rw[bE];exact h1)];split
    ·rfl
    ·exact f_ r hr
   ·rw[C0 _ _ _ (by rw[bE];exact h1),if_neg ?_]
    ·exact Iy r NR kz
    ·intro e;refine oq ?_;rw[e,dD,cV kz];exact mE kz
   ·rw[C0 _ _ _ (by rw[bE];exact h1)]at hl;split at hl
    ·rename_i e;subst e;exact abZ (by rw[EW];exact l_ _ hj) _
    ·rename_i bL;rw[rn (by rw[EW];exact l_ _ h1) (λe=>NB j hj j7 i h1 bL e)];exact NQ j hj j7 hl
 ·intro listed a w YP hr;obtain⟨bE,⟨p,hp,hI,f_,Iy⟩,EW,NQ⟩:=YP;have il:∀r j,qY md j<r->j<ops.size->listed.getD j false=true:=by
   intro r;induction r with
   |zero=>intro j h;omega
   |succ r ih=>
    intro j hj IB;cases hl:listed.getD j false with
    |true=>rfl
    |false=>
     have cC:j<listed.size:=by rw[bE];exact IB
     have gS:listed.getD j true=false:=by simp only[fh,ku cC]at hl⊢;exact hl
     have:j∈Region.ready md ops listed:=aod IB gS λd hd=>by have:=(bH md).a j IB d hd;exact ih d ab this.1
     rw[hr]at this;cases this
  have aLh:p=eD.length:=by
   rcases od p eD.length with h |h
   ·have h1:=Iy p (bj _) h;have hm:eD.getD p 0∈eD:=by rw[dD,cV h];exact mE h
    rw[il _ _ (zp _) ((bH md).e _ hm)]at h1;cases h1
   ·omega
  subst aLh;exact eC a w hI
 ·rw[eo];split
  ·rfl
  ·rfl
 ·rw[eo]at hl;split at hl<;>cases hl
 ·unfold FN;refine eb (Nk _ _) ?_;simp
end
section
variable{P:Program}{T:TypeId->bz}{G:Nat->aa}{w w':World}{a:Act}{N:Nat}{l l':lJ}{ops:Array Oper}{k:Nat}{Q:Exit->Act->World->Prop}{j:Nat}{ls:List Nat}{o:Oper}{K:Act->World->Prop}
def bM.ab5(h:bM N l a)(hd:d<N)(hl:mS l d=none)(x:Value):bM N l (a.put (some d) x):=by refine⟨by rw[fS];exact h.c,by rw[jT];exact h.f,λt u ht=> ?_⟩;rw[rn (by rw[h.c];exact hd) (λe=>by subst e;rw[hl]at ht;cases ht)];exact h.b t u ht
def ym(h:wpOpsIn Fence.wide k P ops (Exit.then K Q) [j] a w):wpOpIn Fence.wide k P ops Q j K a w:=by
 rw[wpOpsIn_cons]at h;unfold wpOpIn at h⊢;cases ho:ops[j]? with
 |none=>rw[ho]at h;exact h
 |some o=>
  rw[ho]at h;simp only at h⊢;split
  ·rename_i hw;rw[if_pos hw]at h;refine⟨h.1,?_⟩;have h2:=h.2;unfold Oper.uponIn at h2⊢;split
   ·rename_i hr;rw[hr]at h2;exact h2
   ·rename_i hr;rw[hr]at h2;exact h2
   ·rename_i hr;rw[hr]at h2;exact h2
   ·rename_i hr;rw[hr]at h2;refine⟨h2.1,h2.2.mono λe w2 he=> ?_⟩;cases e with
    |returned v=>exact he
    |panicked c=>exact he
    |outgrown=>obtain⟨a2,w3,h3⟩:=he;exact⟨a2,w3,h3⟩
   ·rename_i hr;rw[hr]at h2;exact h2
   ·rename_i hr;rw[hr]at h2;refine⟨h2.1,h2.2.mono λe w2 he=> ?_⟩;cases e with
    |returned v=>exact he
    |panicked c=>exact he
    |outgrown=>obtain⟨a2,w3,h3⟩:=he;exact⟨a2,w3,h3⟩
   ·rename_i hr;rw[hr]at h2;exact h2
   ·rename_i x h3 h4 h5 h6 h7 h8 h9;split at h2
    ·rename_i hr;exact absurd hr (h3 _ _)
    ·rename_i hr;exact absurd hr (h4 _)
    ·rename_i hr;exact absurd hr (h5 _ _)
    ·rename_i hr;exact absurd hr (h6 _ _ _)
    ·rename_i hr;exact absurd hr (h7 _ _ _)
    ·rename_i hr;exact absurd hr (h8 _ _ _ _ _ _)
    ·rename_i hr;exact absurd hr (h9 _ _)
    ·exact h2
  ·rename_i hw;rw[if_neg hw]at h;exact h
def gY{op:Op}{x:Value}(ho:gB ops j o op (some d))(bm:(execOp a.eval o).run P w=.ok (.value x) w):wpOpIn Fence.wide k P ops Q j (λa' w'=>w'=w/\a'=a.put (some d) x) a w:=by have h:=yj (P:=P) (ops:=ops) (k:=k) (Q:=Exit.then (λa' w'=>w'=w/\a'=a.put (some d) x) Q) (l:=[]) ho.b (jV ho.e) bm (λf _=>trivial) (by rw[ho.c];exact⟨rfl,rfl⟩);exact ym h
def C1(hT:cH P T){q:Nat}(ho:gB ops j o (.load t x) (some d))(hs:bM N l a)(hN:d<N)(ht:(T t).D=true)(np:(T t).b=true)
  (hx:eW l x=some (.pointer (some ⟨b,q,none⟩)))(hc:dH w b q cs)(hl:cs.length=(T t).a)(h:∀a',bM N ((d,.agg cs.toArray)::l) a'->wpOpsIn Fence.wide k P ops Q ls a' w):wpOpsIn Fence.wide k P ops Q (j::ls) a w:=by
 refine an7 hT ho.b ho.a (jV ho.e) ht np (hs.I hx) hc hl ?_;rw[ho.c];exact h _ (hs.U hN _)
def ab6(hT:cH P T)(ho:gB ops j o (.alloc t) (some d))(hs:bM N l a)(hN:d<N)(ht:(T t).D=true)
  (h:∀a'(z:Array Value),z.size=(mc (T t)).V.length->bM N ((d,.pointer (some ⟨w.heap.size,0,none⟩))::l) a'->wpOpsIn Fence.wide k P ops Q ls a' (w.alloc (.cells z t))):wpOpsIn Fence.wide k P ops Q (j::ls) a w:=by
 obtain⟨z,hz,_,h2,_⟩:=(hT.D ht).Cv (T:=T) (w:=w) (O:=λ_=>False) w (λ_ _=>False);refine yj (x:=.pointer (some ⟨w.heap.size,0,none⟩)) (w':=w.alloc (.cells z.cells t)) ho.b (jV ho.e) ?_ (λf _=>trivial) ?_
 ·simp[execOp,ho.a,Instr.alloc,hz,newVar];rfl
 ·rw[ho.c];exact h _ z.cells (by have:=h2.I;simpa using this) (hs.U hN _)
structure aof(w:World)(b q:Nat)(us:List Value)(w':World):Prop where
 f:w'.os=w.os
 g:w'.tape=w.tape
 h:w'.output=w.output
 a:w'.heap.size=w.heap.size
 d:∀c,c≠b->w'.heap[c]? =w.heap[c]?
 i:∀{arr e},w.heap[b]? =some (.cells arr e (0,0))->w'.heap[b]? =some (.cells (arr.toList.take q++us++arr.toList.drop (q+us.length)).toArray e (0,0))
def ab7(hT:cH P T){y:Operand}{q:Nat}{arr:Array Value}{us:List Value}(ho:gB ops j o (.store t x y) none)(hs:bM N l a)(ht:(T t).D=true)(bE:us.length=(T t).a)
  (hx:eW l x=some (.pointer (some ⟨b,q,none⟩)))(hy:eW l y=some (.agg us.toArray))(BH:∀u∈us,u.oneCell'=true)(hb:w.heap[b]? =some (.cells arr e (0,0)))(hq:q+us.length<=arr.size)
  (h:∀w',aof w b q us w'->wpOpsIn Fence.wide k P ops Q ls a w'):wpOpsIn Fence.wide k P ops Q (j::ls) a w:=by
 have bg:=HL P b q e us 0 arr w hb (by simpa using hq) BH;simp only[lW]at bg;have row:=hT.D ht;refine abW (w':=w.setRow b (arr.toList.take q++us++arr.toList.drop (q+us.length)).toArray) ho.b (jV ho.e) ?_ ?_
 ·have hx':=hs.I hx;have hy':=hs.I hy;simp only[execOp,ho.a,hx',hy',Instr.storeAt,Instr.sureAddr,storeVar,eh,ju,fD,row.D,Value.cells];rw[if_neg (by simp[bE]),bg];rfl
 ·rw[ho.c];refine h _ ⟨rfl,rfl,rfl,aB,λc hc=>Es _ _ _ _ hc,fun {aLb e2} eT=> ?_⟩;rw[hb]at eT;simp only[Option.some.injEq,Obj.cells.injEq]at eT;obtain⟨rfl,rfl,_⟩:=eT;rw[Et _ _ _ _ _ _ hb]
structure gj(T:TypeId->bz)(G:Nat->aa)(O:Nat->Prop)(w:World):Prop where
 a:∀b,O b->b<w.heap.size
 c:∀g,dU T w O (G g) g
def aog:aY O (a_ []) β b↔O b:=by
 constructor
 ·rintro(h | ⟨i,mi,_⟩)
  ·exact h
  ·have:=mi.1;rw[show a_ [] i=.c by cases i<;>rfl]at this;cases this
 ·exact .inl
def Ah:aY O (a_ []) β=O:=funext λ_=>propext aog
def gj.I(h:gj T G O w)(β:Nat->bd):cY T G O (a_ []) β w:=by
 have hd:∀i,a_ [] i=.c:=λi=>by cases i<;>rfl
 have nm:∀i,¬cQ (a_ []) β i:=λi mi=>by have:=mi.1;rw[hd]at this;cases this
 refine⟨λi=>by rw[hd];trivial,λi ha=>(by rw[hd]at ha;cases ha),λi j _ mi=>absurd mi (nm i),h.a,λi mi=>absurd mi (nm i),λg=> ?_⟩;rw[Ah];exact h.c g
def gj.D{O':Nat->Prop}(h:gj T G O w)(hk:cz w w' O O')(cC:∀b,O' b->b<w'.heap.size):gj T G O' w':=⟨cC,λg=>dU.D hk (h.c g)⟩
def C2{M:aq}(hH:ck T G P f M)(hE:∀args w,(callFunc f args).run P w=.ok (.enter f args) w){out:aC}(he:(M args []).D=some out)(hg:gj T G O w)(hr:aF T w O args bh bk.toList)(β:Nat->bd){R:Ending->World->Prop}
  (hR:∀e w',kE T G O [] β w out e w'->R e w'):CallsIn Fence.wide k P f bk w R:=by
 have h:=hH args [] out he aB O β w bk (hg.I β) (by
  rw[Ah];exact aF.D (cz.D λb h=>h) _ _ _ _ (λ_ _ h=>h.elim) hr)
 rcases h with⟨_,h⟩ | ⟨x,w',h1,h2⟩
 ·exact callsIn_wide.2 (h.mono hR)
 ·rw[hE]at h1;cases h1
end
section
variable{E:bD}{P:Program}{Z:Nat->Prop}{n lo m:Nat}{β:Nat->bd}{w:World}{a:Act}
def ab8(E:bD)(P:Program)(m n:Nat)(b:Code):Prop:=∀(Z:Nat->Prop)(lo kn B:Nat)(K:(Nat->aj)->(Nat->bd)->World->Prop),mh m B K->lo<=B->dI E.e E.g n b=true->∀(vs:List aa)(os:List aj)(r:aU×List aa×List aj)(β:Nat->bd)(a:Act)(w:World),(E.d m (cF b) vs os).D=some r->
 bA E Z n lo ⟨false,[]⟩ (dx (E.c (cF b)) vs os) β a w->K (a_ os) β w->(Code.loop b).wpIn Fence.wide kn P (px E Z n lo ⟨false,[]⟩ K (r.1,dx (E.h (cF b)) r.2.1 r.2.2)) a w
def yn(E:bD)(P:Program)(m n:Nat):Code->Prop
 | .seq a b=>yn E P m n a/\yn E P m n b
 | .cond _ a b=>yn E P m n a/\yn E P m n b
 | .block _ b=>yn E P m n b
 | .loop b=>ab8 E P m n b
 | .skip=>True
 | .ret=>True
 | .exit _=>True
 | .region .. =>True
 |_=>False
def C3{kn B:Nat}{K:(Nat->aj)->(Nat->bd)->World->Prop}(hT:cH P E.a)(hC:∀g,ck E.a E.b P g (E.f g))(hK:mh m B K)(dT:lo<=B):∀(c:Code)(s:bu)(x:aU×bu)(β:Nat->bd)(a:Act)(w:World),dI E.e E.g n c=true->yn E P m n c->(cy E m c s).D=some x->
  bA E Z n lo ⟨false,[]⟩ s β a w->qf s->K s.a β w->c.wpIn Fence.wide kn P (px E Z n lo ⟨false,[]⟩ K x) a w
 | .skip,s,x,β,a,w,_,_,he,r,hf,hw=>by simp only[cy,af.D,Option.some.injEq]at he;subst he;exact nj ⟨β,r,hf,hw,trivial⟩
 | .exit id,s,x,β,a,w,_,_,he,r,hf,hw=>by simp only[cy,af.D,Option.some.injEq]at he;subst he;exact qL ⟨β,r,hf,hw,rfl⟩
 | .ret,s,x,β,a,w,_,_,he,r,hf,hw=>by simp only[cy,af.D,Option.some.injEq]at he;subst he;exact vd ⟨β,r,hf,hw,trivial⟩
 | .region id ops draw,s,x,β,a,w,hc,_,he,r,hf,hw=>abh Ps hT hC (by rw[dI,au]at hc;exact hc.1) (λhd=>by subst hd;rw[dI,au]at hc;simpa using hc.2) he hK r hf hw
 | .seq c d,s,x,β,a,w,hc,hl,he,r,hf,hw=>by
  rw[dI,au]at hc;rw[cy]at he;obtain⟨x1,e1,e2⟩:=cm he;refine b8 (tC (C3 hT hC hK dT c s x1 β a w hc.1 hl.1 e1 r hf hw) (λe a' w' hp=> ?_));obtain⟨β',r',hf',hw',hx⟩:=hp;obtain⟨ex,s1⟩:=x1;cases ex with
  |b=>
   cases e with
   |normal=>exact C3 hT hC hK dT d s1 x β' a' w' hc.2 hl.2 e2 r' hf' hw'
   |_=>exact hx.elim
  |a i=>
   simp only[af.D,Option.some.injEq]at e2;subst e2;cases e with
   |exit j=>exact⟨β',r',hf',hw',hx⟩
   |_=>exact hx.elim
  |c=>
   simp only[af.D,Option.some.injEq]at e2;subst e2;cases e with
   |ret=>exact⟨β',r',hf',hw',hx⟩
   |_=>exact hx.elim
  |e v=>
   simp only[af.D,Option.some.injEq]at e2;subst e2;cases e with
   |panic ch=>exact⟨β',r',hf',hw',hx⟩
   |_=>exact hx.elim
  |d l=>
   simp only[af.D,Option.some.injEq]at e2;subst e2;cases e with
   |goto j=>exact⟨β',r',hf',hw',hx⟩
   |_=>exact hx.elim
 | .cond cn c d,s,x,β,a,w,hc,hl,he,r,hf,hw=>by
  rw[dI,au]at hc;have hv:=r.m.I (λg=>(r.f.n g).1) cn;have fin:∀t,aN E s.b cn=.p t->(cy E m (if t then c else d) s).D=some x->(Code.cond cn c d).wpIn Fence.wide kn P (px E Z n lo ⟨false,[]⟩ K x) a w:=λt ht e2=>by
   rw[ht]at hv;refine fY hv ?_;cases t with
   |true=>exact C3 hT hC hK dT c s x β a w hc.1 hl.1 e2 r hf hw
   |false=>exact C3 hT hC hK dT d s x β a w hc.2 hl.2 e2 r hf hw
  cases cn with
  |tmp t=>
   simp only[cy]at he;split at he
   ·rename_i b hb;have hb':s.b t=.p b:=hb;refine fin b hb ?_;cases b with
    |true=>simp only[af.D]at he;rw[ua hb']at he;exact he
    |false=>simp only[af.D]at he;rw[ua hb']at he;exact he
   ·simp[af.D]at he
  |_=>
   simp only[cy]at he;split at he
   ·rename_i b hb;refine fin b hb ?_;cases b<;>(simp only[af.D]at he;exact he)
   ·simp[af.D]at he
 | .block id c,s,x,β,a,w,hc,hl,he,r,hf,hw=>by
  rw[dI]at hc;rw[cy]at he;obtain⟨x1,e1,e2⟩:=cm he;refine lx (tC (C3 hT hC hK dT c s x1 β a w hc hl e1 r hf hw) (λe a' w' hp=> ?_));obtain⟨β',r',hf',hw',hx⟩:=hp;obtain⟨ex,s1⟩:=x1;cases ex with
  |b=>
   simp only[af.D,Option.some.injEq]at e2;subst e2;cases e with
   |normal=>exact⟨β',r',hf',hw',hx⟩
   |_=>exact hx.elim
  |a i=>
   cases e with
   |exit j=>
    have gH:i=j:=hx;subst gH;simp only at e2;show if i=id then _ else _
    split at e2
    ·rename_i hb;simp only[af.D,Option.some.injEq]at e2;subst e2;rw[if_pos (aV hb)];exact⟨β',r',hf',hw',trivial⟩
    ·rename_i hb;simp only[af.D,Option.some.injEq]at e2;subst e2;rw[if_neg (λhe=>by rw[he,show Nat.beq id id=true from gq id]at hb;cases hb)];exact⟨β',r',hf',hw',rfl⟩
   |_=>exact hx.elim
  |c=>
   simp only[af.D,Option.some.injEq]at e2;subst e2;cases e with
   |ret=>exact⟨β',r',hf',hw',hx⟩
   |_=>exact hx.elim
  |e v=>
   simp only[af.D,Option.some.injEq]at e2;subst e2;cases e with
   |panic ch=>exact⟨β',r',hf',hw',hx⟩
   |_=>exact hx.elim
  |d l=>
   simp only[af.D,Option.some.injEq]at e2;subst e2;cases e with
   |goto j=>exact⟨β',r',hf',hw',hx⟩
   |_=>exact hx.elim
 | .loop b,s,x,β,a,w,hc,hl,he,r,hf,hw=>by rw[dI]at hc;rw[cy]at he;obtain⟨res,e1,e2⟩:=cm he;simp only[af.D,Option.some.injEq]at e2;subst e2;exact hl Z lo kn B K hK dT hc _ _ res _ a w e1 (sx _ r) (sz hK _ hw)
 | .label _,_,_,_,_,_,_,hl,_,_,_,_=>hl.elim
 | .scope _,_,_,_,_,_,_,hl,_,_,_,_=>hl.elim
 | .goto _,_,_,_,_,_,_,hl,_,_,_,_=>hl.elim
 | .refuse _,_,_,_,_,_,_,hl,_,_,_,_=>hl.elim
 | .rangeFunc ..,_,_,_,_,_,_,hl,_,_,_,_=>hl.elim
def aoh(hT:cH P E.a)(hC:∀g,ck E.a E.b P g (E.f g)){c:Code}(hf:P.funcs[f]? =some fn)(gu:(fn.name== "runtime.NumGoroutine")=false)(hb:fn.body=some c)(gI:dI E.e E.g fn.ntmps c=true)
  (own:Bool)(C:List aa->List aj->af aC)(vt:∀args ao out,(C args ao).D=some out->yn E P ao.length (args.length+(fn.ntmps-args.length)) c/\(aI E own fn args ao).D=some out):ck E.a E.b P f C:=by
 intro args ao out cM iL Z β w bk cx cN;obtain⟨vu,bm⟩:=vt args ao out cM;have h1:fn.name≠ "runtime.NumGoroutine" :=by simpa using gu
 refine .inl ⟨by simp[callFunc,hf,h1,hb],callsIn_wide.1 (Nd (n:=0) hf hb trivial ?_)⟩;unfold aI at bm;rw[hb]at bm;simp only at bm;obtain⟨x,e1,e2⟩:=cm bm;have jg:xV (a_ ao):=by
  intro i ro g t vs hq;rw[oC]at hq;cases ho:ao[i]? with
  |none=>rw[ho]at hq;cases hq
  |some o=>rw[ho]at hq;have:=iL o (eg ho);simp only[lr]at hq;rw[hq]at this;exact this
 have hlen:=cN.I;have r0:bA E Z (bk++Array.replicate (fn.ntmps-bk.size) undef).size w.heap.size ⟨false,[]⟩ (j_ args ao) β {tmps:=bk++Array.replicate (fn.ntmps-bk.size) undef,defers:=[]} w:=by
  refine⟨cx,λt=> ?_,rfl,gg.I fR.I⟩;show ax _ _ _ (j_.vS args t) _ _;rw[JG];by_cases ht:t<args.length
  ·have h2:args[t]? =some args[t]:=cV ht;obtain⟨y,h3,h4⟩:=aF.vU t _ cN h2;have h5:(bk++Array.replicate (fn.ntmps-bk.size) undef).getD t undef=y:=by
    have h6:t<bk.size:=by simp at hlen;omega
    rw[fh,Ez h6];have:bk[t]? =some y:=by simpa using h3
    rw[this];rfl
   show ax _ _ _ _ _ ((bk++Array.replicate (fn.ntmps-bk.size) undef).getD t undef);rw[h5,dD,h2];exact h4
  ·rw[dD,kY ab];exact trivial
 have YH:qf (j_ args ao):=λi hi=>by show a_ ao i=.c;rw[oC,kY hi];rfl
 refine tC (C3 hT hC (dZ.U (m:=ao.length) (β0:=β) (w0:=w) jg) (bj _) c _ x β _ w (oD (by simp;omega) c gI) (by rw[show(bk++Array.replicate (fn.ntmps-bk.size) undef).size=args.length+(fn.ntmps-args.length)by simp at hlen;simp[hlen]];exact vu) e1 r0 YH dZ.D) (λe a' w1 hp=> ?_);obtain⟨β',r1,hf',iM,hx⟩:=hp;obtain⟨_,lD,xD,_,xE,ot⟩:=r1.z;have rq:∀w',cc w.heap.size w1 w'->bA E Z (bk++Array.replicate (fn.ntmps-bk.size) undef).size w.heap.size ⟨false,[]⟩ x.2 β' {a' with defers:=[]} w':=λw' q=>
  bA.U ⟨r1.f,r1.m,r1.p,gg.I fR.I⟩ q aB
 suffices hs:∀w',cc w.heap.size w1 w'->(match e with | .normal | .ret=>∃v,(results fn a'.tmps).run P w'=.ok v w'/\kE E.a E.b Z ao β w out (.returned v) w' | .panic chain=>kE E.a E.b Z ao β w out (.panicked chain) w' |_=>False)by
  cases e with
  |normal=>show LeavesInM _ _ _ _ _ _ _ _ _;rw[xD];exact x0 aB lD w1 xE (λD hD=>⟨(ot D hD).1,(ot D hD).2.1⟩) (λw' q=>hs w' q)
  |ret=>show LeavesInM _ _ _ _ _ _ _ _ _;rw[xD];exact x0 aB lD w1 xE (λD hD=>⟨(ot D hD).1,(ot D hD).2.1⟩) (λw' q=>hs w' q)
  |panic chain=>show LeavesInM _ _ _ _ _ _ _ _ _;rw[xD];exact x0 aB lD w1 xE (λD hD=>⟨(ot D hD).1,(ot D hD).2.1⟩) (λw' q=>hs w' q)
  |exit i=>exact(hs w1 cc.U).elim
  |goto l=>exact(hs w1 cc.U).elim
  |outgrown=>exact(hs w1 cc.U).elim
 intro w' q;have r':=rq w' q;have hw':=iM.I q;obtain⟨ex,s1⟩:=x;have cxE:∀l,cY E.a E.b Z (a_ (kB s1.a (nB ao.length) (iQ ao.length s1 l))) (eV β' (iQ ao.length s1 l)) w':=λl=>
  r'.f.U (CA _ _) (λb hb=>.inl hb) r'.f.m (λi _ mi=>r'.f.f i mi)
 have wkE:∀l,dZ ao.length (a_ ao) β w (a_ (kB s1.a (nB ao.length) (iQ ao.length s1 l))) (eV β' (iQ ao.length s1 l)) w':=λl=>
  hw'.V jg (λi hi=>Fx _ _ _ hi) (λi g hi h=>JF i g hi h)
 have hO:∀l b,aY Z (jF s1.a (nB ao.length) (iQ ao.length s1 l)) (eV β' (iQ ao.length s1 l)) b->aY Z s1.a β' b:=λl=>su (λb hb=>.inl hb);have fin:(sk E ao.length own fn s1).D=some out->∃v,(results fn a'.tmps).run P w'=.ok v w'/\kE E.a E.b Z ao β w out (.returned v) w':=z_ (a:={a' with defers:=[]}) hT jg r' hw';cases ex with
 |b=>
  cases e with
  |normal=>exact fin e2
  |_=>exact hx.elim
 |c=>
  cases e with
  |ret=>exact fin e2
  |_=>exact hx.elim
 |a i=>simp[af.D]at e2
 |d l=>simp[af.D]at e2
 |e v=>
  simp only[Fi,af.D,Option.some.injEq]at e2;cases e with
  |panic ch=>obtain⟨k1,y,k2,k3⟩:=hx;refine⟨_,_,_,y,e2.symm,k1,k2,cxE _,wkE _,?_⟩;exact ax.D (cz.D (hO _)) _ _ _ _ (λ_ _ h=>h) (ax.I v _ _ y (λ_ _ _ h=>h.elim) (ax.U q _ _ _ k3))
  |_=>exact hx.elim
end
section
variable{E:bD}{P:Program}{Z:Nat->Prop}{n lo m:Nat}{s:bu}{β:Nat->bd}{w w':World}{a:Act}
def bA.ab9(r:bA E Z n lo d0 s β a w):∀i,(s.a i).D=true->(β i).d=false->¬Z (β i).a:=λi ha hn hz=>by
 cases hr:(s.a i).I with
 |true=>exact r.f.f i ⟨hr,hn⟩ hz
 |false=>exact r.f.p i ha hr hn (.inl hz)
def bA.ab_(r:bA E Z n lo d0 s β a w):∀b,aY Z s.a β b->b<w.heap.size:=λb hb=>by
 rcases hb with hb | ⟨i,mi,rfl⟩
 ·exact r.f.m b hb
 ·exact(r.f.c i).D (aj.t_ mi.1) mi.2
def bA.aoi(r:bA E Z n lo d0 s β a w):gj E.a E.b (aY Z s.a β) w:=⟨r.ab_,r.f.n⟩
def bA.aoj(r:bA E Z n lo ⟨false,[]⟩ s β a w){j:Nat}{x x':Int}(hj:s.a j=.a false [.c .i64 x]){Bz:Nat->Prop}(hB:∀c,Bz c->Z c)(bE:w.heap.size<=w'.heap.size)(j4:∀c,c<w.heap.size->¬Bz c->c≠(β j).a->w'.heap[c]? =w.heap[c]?)
  (hb:∃arr e,w'.heap[(β j).a]? =some (.cells arr e (0,0))/\arr.toList[0]? =some (.int .i64 x')):bA E Z n lo ⟨false,[]⟩ {s with a:=bO s.a j (.a false [.c .i64 x'])} β a w':=by
 have NG:=r.f.c j;rw[hj]at NG;obtain⟨ajZ,_⟩:=NG;have YR:cQ s.a β j:=⟨by rw[hj];rfl,ajZ⟩
 have hm:∀k,cQ (bO s.a j (.a false [.c .i64 x'])) β k↔cQ s.a β k:=λk=>by
  by_cases hk:k=j
  ·subst hk;unfold cQ;rw[dt,hj];exact Iff.rfl
  ·unfold cQ;rw[fj _ _ hk]
 have xy:∀b,aY Z (bO s.a j (.a false [.c .i64 x'])) β b↔aY Z s.a β b:=λb=>by
  constructor
  ·rintro(h | ⟨i,mi,e⟩)
   ·exact .inl h
   ·exact .inr ⟨i,(hm i).1 mi,e⟩
  ·rintro(h | ⟨i,mi,e⟩)
   ·exact .inl h
   ·exact .inr ⟨i,(hm i).2 mi,e⟩
 have hk:cz w w' (aY Z s.a β) (aY Z (bO s.a j (.a false [.c .i64 x'])) β):=⟨bE,λb hb hO=>j4 b hb (λh=>hO (.inl (hB b h))) λe=>hO (.inr ⟨j,YR,e.symm⟩),λb _ hO hO'=>hO ((xy b).1 hO')⟩
 have EG:∀i,iz (s.a i) (β i) (bO s.a j (.a false [.c .i64 x']) i) (β i):=λi=>by
  by_cases hi:i=j
  ·subst hi;rw[dt,hj];exact⟨⟨_,_,rfl⟩,rfl⟩
  ·rw[fj _ _ hi];exact iz.D _ _
 have hrefs:∀r y,bW E.a s.a β r y->bW E.a (bO s.a j (.a false [.c .i64 x'])) β r y:=λr y=>Fm EG;refine⟨⟨λi=> ?_,λi ha hr hn hO=> ?_,λi k Cb mi mk=>r.f.d i k Cb ((hm i).1 mi) ((hm k).1 mk),λb hz=>dJ (r.f.m b hz) bE,λi mi=>r.f.f i ((hm i).1 mi),λg=>dU.D hk (r.f.n g)⟩,λt=>ax.D hk _ _ _ _ hrefs (r.m t),r.p,?_⟩
 ·by_cases hi:i=j
  ·subst hi;show gM E.a w' _ _ (β i) (bO s.a i (.a false [.c .i64 x']) i);rw[dt];obtain⟨arr,e,h1,h2⟩:=hb;refine⟨ajZ,arr,e,h1,.int .i64 x',[],?_,rfl,rfl⟩;obtain⟨h3,h4⟩:=List.getElem?_eq_some_iff.1 h2;cases hl:arr.toList with
   |nil=>rw[hl]at h3;simp at h3
   |cons u r=>rw[hl]at h2;injection h2 with h2;rw[h2];rfl
  ·show gM E.a w' _ _ (β i) (bO s.a j (.a false [.c .i64 x']) i);rw[fj _ _ hi];cases ha:(s.a i).D with
   |false=>
    have:s.a i=.c:=by cases hq:s.a i<;>first |rfl | (rw[hq]at ha;cases ha)
    rw[this];trivial
   |true=>
    refine(r.f.c i).I hk hrefs λhn=>j4 _ ((r.f.c i).D ha hn) (λh=>r.ab9 i ha hn (hB _ h)) λe=> ?_;cases hr:(s.a i).I with
    |true=>exact r.f.d i j hi ⟨hr,hn⟩ YR e
    |false=>exact r.f.p i ha hr hn (.inr ⟨j,YR,e.symm⟩)
 ·by_cases hi:i=j
  ·subst hi;have hr:(bO s.a i (.a false [.c .i64 x']) i).I=false:=hr;rw[dt]at hr;cases hr
  ·have ha:(bO s.a j (.a false [.c .i64 x']) i).D=true:=ha;have hr:(bO s.a j (.a false [.c .i64 x']) i).I=false:=hr;rw[fj _ _ hi]at ha hr;exact r.f.p i ha hr hn ((xy _).1 hO)
 ·obtain⟨h1,l,h2,h3,_⟩:=r.z;have:=h3 rfl;subst this;exact⟨h1,[],h2,λ_=>rfl,Ew,aB⟩
end
def Ai(d:dQ)(i:Nat):List Nat×Code×Code:=match(dj d.D)[i]? with |some (.d ps a b)=>(ps,a,b) |_=>([],.skip,.skip)
def kg{α β γ:Type}(f:α->γ->β⊕α):List γ->α->β⊕α
 | [],a=>.inr a
 |v::r,a=>(match f a v with | .inl b=>.inl b | .inr a'=>kg f r a')
section
variable{P:Program}{g:eH}{C:FuncId->aq}{d:dQ}{f:FuncId}{L:Nat->Nat->List aa->List aj->af (aU×List aa×List aj)}
def vY(g:eH)(C:FuncId->aq)(d:dQ)(L:dk)(m i:Nat)(x:aa)(vs:List aa)(os:List aj):af (aU×List aa×List aj):=oA (ay g C d L) m (Ai d i).1 (Ai d i).2.1 (Ai d i).2.2 x vs os
def ab'{α β:Type}(g:eH)(C:FuncId->aq)(d:dQ)(L:dk)(m i:Nat)(st:α->List aa)(ob:α->List aj)(shB:β->aU×List aa×List aj)(Inv:α->Prop)(x:aa)(a:α):β⊕α->Prop
 | .inl b=>(vY g C d L m i x (st a) (ob a)).D=some (shB b)/\py (shB b)=true
 | .inr a'=>(vY g C d L m i x (st a) (ob a)).D=some (.b,st a',ob a')/\Inv a'
def C4{α β:Type}{st:α->List aa}{ob:α->List aj}{shB:β->aU×List aa×List aj}{Inv:α->Prop}{x:aa}{a:α}{t:af (aU×List aa×List aj)}{y:β⊕α}(h:(vY g C d L m i x (st a) (ob a)).D=t.D)(hs:vW shB (λa'=>(st a',ob a')) Inv t y):ab' g C d L m i st ob shB Inv x a y:=by
 cases y with
 |inl b=>exact⟨h.trans hs.1,hs.2⟩
 |inr a'=>exact⟨h.trans hs.1,hs.2⟩
def bw.aok(hk:((dj d.D).map fT.D).Nodup){ps:List Nat}{a b:Code}(hb:fT.d ps a b∈dj d.D)(hL:cJ g C d L){x:aa}{rest:List aa}{os:List aj}{y:aU×List aa×List aj}
  (he:(oA (ay g C d L) m ps a b x vs os).D=some y)(hn:py y=true):bw g C d m (cF a) (.q (x::rest)::vs) os y:=by
 obtain⟨e,vs',os'⟩:=y;cases e<;>first |exact bw.abR hk hb hL he rfl |cases hn
def C5{α β γ:Type}(ok:iB P g f d)(i:Nat){key:Nat}(hb:(dj d.D)[i]? =some (.d (Ai d i).1 (Ai d i).2.1 (Ai d i).2.2))(gr:cF (Ai d i).2.1=key)(hL:cJ g C d L){m:Nat}(it:γ->aa)(st:α->List aa)(ob:α->List aj)(F:α->γ->β⊕α)(shB:β->aU×List aa×List aj)(Inv:α->Prop):
  ∀(l:List γ)(_:∀a,∀x∈l,Inv a->ab' g C d L m i st ob shB Inv (it x) a (F a x))(a:α),Inv a->bw g C d m key (.q (l.map it)::st a) (ob a) (ml shB (λa=>(.b,st a,ob a)) (kg F l a))
 | [],_,a,_=>by subst gr;exact bw.anY ok.a (eg hb)
 |x::r,bg,a,hI=>by
  have hs:=bg a x aB hI;rw[kg,lX];cases hF:F a x with
  |inl b=>rw[hF]at hs;subst gr;exact bw.aok ok.a (eg hb) hL hs.1 hs.2
  |inr a'=>rw[hF]at hs;have:=C5 ok i hb gr hL it st ob F shB Inv r (λa x hx=>bg a x (by simp[hx])) a' hs.2;subst gr;exact bw.abR ok.a (eg hb) hL hs.1 this
end
section
variable{P:Program}{T:TypeId->bz}{w:World}
def J2:Nat->Prop:=λ_=>False
def aca(b:Nat):¬aY J2 (a_ []) β b:=by
 rintro(h | ⟨i,hi,_⟩)
 ·exact h
 ·have:=hi.1;cases this
end
section
variable{P:Program}{T:TypeId->bz}{w:World}{O:Nat->Prop}{H:Type}{enc:TypeId×Value->H}
def PV:∀{l:List (String×DataW Unit)}{ps:List MemPlace},DataW.LaidVars P w l ps->∀{n:String}{d:DataW Unit},(n,d)∈l->
  ∃g t cs fuel p,P.globalNamed n=some g/\(P.globals[g]?).map (·.type)=some t/\w.var? P n=some cs/\DataW.trod (λ_=>()) P w 0 (λ_=>true) false fuel t cs.toList=some (d,p)
 | [],_,_,_,_,hm=>by cases hm
 | (m,e)::r,ps,h,n,d,hm=>by
  obtain⟨g,t,cs,fuel,p,q,h1,h2,h3,h4,h5,_⟩:=h;rcases List.mem_cons.1 hm with hm |hm
  ·injection hm with a b;subst a b;exact⟨g,t,cs,fuel,p,h1,h2,h3,h4⟩
  ·exact PV h5 hm
def PW{base:Nat}{sp:Nat->Bool}{held:Bool}{fuel:Nat}{n:Nat}{ds:List (DataW H)}{p:List MemPlace}
  (ht:P.underlying t=some (.array n e))(zv:P.cellsOf e=1)(jQ:P.cellsOf t=n)
  (h:DataW.trod enc P w base sp held fuel t cs=some (.agg ds,p)):∃m,cs.length=ds.length/\∀(i:Nat)(d:DataW H),ds[i]? =some d->∃v q,cs[i]? =some v/\DataW.trod enc P w base sp held m e [v]=some (d,q):=by
 cases fuel with
 |zero=>simp[DataW.trod]at h
 |succ fuel=>
  simp only[DataW.trod,ht,zv,jQ,Nat.mul_one]at h;split at h
  ·rename_i hl;obtain⟨xs,hm,hx⟩:=Option.map_eq_some_iff.1 h;have BO:xs.map (·.1)=ds:=by have:=dh Prod.fst hx;simpa using this
   have aLi:xs.length=n:=by simpa using Lib.mapM_length hm
   subst BO;refine⟨fuel,by simp[hl,aLi],λi d hd=> ?_⟩;rw[fX]at hd;have hi:i<n:=by
    rcases od i n with h |h
    ·exact h
    ·rw[kY ab]at hd;cases hd
   obtain⟨b,hb,hf⟩:=Lib.mapM_at hm i i (by simp[hi]);rw[hb]at hd;injection hd with hd;subst hd;have h1:cs[i]? =some cs[i]:=cV ab;have h2:(cs.drop i).take 1=[cs[i]]:=by rw[oY ab];rfl
   rw[h2]at hf;exact⟨_,b.2,h1,hf⟩
  ·cases h
def J3:∀{cs:List Value}{vs:List aa},cs.length=vs.length->(∀(i:Nat)(u:aa),vs[i]? =some u->∃v,cs[i]? =some v/\ax T w O u bh v)->aF T w O vs bh cs
 | [],[],_,_=>rfl
 |c::cs,v::vs,hl,h=>by obtain⟨x,hx,hr⟩:=h 0 v rfl;simp only[M0,Option.some.injEq]at hx;subst hx;exact⟨_,_,rfl,hr,J3 (by simpa using hl) (λi u hu=>h (i+1) u (by simpa using hu))⟩
 | [],_::_,hl,_=>by simp at hl
 |_::_,[],hl,_=>by simp at hl
def J4(hO:∀b,¬O b){cs:Array Value}(hg:P.globalNamed n=some g)(hv:w.var? P n=some cs)(hr:aF T w O vs bh cs.toList):
  dU T w O (.A vs) g:=by
 have hlen:cs.size=vs.length:=by
  have key:∀(us:List aa)(l:List Value),aF T w O us bh l->l.length=us.length:=by
   intro us;induction us with
   |nil=>intro l h;have h:l=[]:=h;subst h;rfl
   |cons u us ih=>intro l h;obtain⟨x,r,rfl,_,h⟩:=h;simp[ih r h]
  have:=key vs cs.toList hr;simpa using this
 refine⟨⟨g,0,cs.toList,rfl,?_,hO g,λj u hj=> ?_,hr⟩,?_⟩
 ·simp only[World.var?,hg,X5]at hv;split at hv
  ·rename_i hh;exact(Array.getElem?_eq_some_iff.1 hh).1
  ·cases hv
 ·rw[gF,World.var?_cell hg hv j,<-fu,hj]
 ·simp only[World.var?,hg,X5]at hv;split at hv
  ·rename_i cs2 e z hh;simp only[Option.some.injEq]at hv;subst hv;exact⟨_,_,_,hh,hlen⟩
  ·cases hv
def PX(hO:∀b,¬O b)(hL:DataW.LaidVars P w l ps){d:DataW Unit}(ss:List (List UInt8))
  (hm:(n,d)∈l)(hd:d=.agg (ss.map λs=>.lit (.string s)))(hg:P.globalNamed n=some g)(IC:(P.globals[g]?).map (·.type)=some t)(ht:P.underlying t=some (.array m e))(he:P.underlying e=some .string)(zv:P.cellsOf e=1)(jQ:P.cellsOf t=m):
  dU T w O (.A (ss.map aa.h)) g:=by
 obtain⟨g',t',cs,fuel,p,h1,h2,h3,h4⟩:=PV hL hm;obtain rfl:=Option.some.inj (hg.symm.trans h1);obtain rfl:=Option.some.inj (IC.symm.trans h2);subst hd;obtain⟨k,hl,pf⟩:=PW ht zv jQ h4;refine J4 hO hg h3 (J3 (by simpa using hl) (λi u hu=> ?_));rw[fX]at hu;cases hs:ss[i]? with
 |none=>rw[hs]at hu;cases hu
 |some s=>rw[hs]at hu;injection hu with hu;subst hu;obtain⟨v,q,hv,hq⟩:=pf i (.lit (.string s)) (by rw[fX,hs];rfl);obtain⟨b,hb,hx,_⟩:=DataW.trod_string he hq;injection hb with hb;subst hb;injection hx with hx _;injection hx with hx;injection hx with hx;exact⟨_,hv,b,rfl,hx.symm⟩
def acb(hO:∀b,¬O b)(hL:DataW.LaidVars P w l ps){d:DataW Unit}(kd:IntKind)(zs:List Int)
  (hm:(n,d)∈l)(hd:d=.agg (zs.map λs=>.lit (.int kd s)))(hg:P.globalNamed n=some g)(IC:(P.globals[g]?).map (·.type)=some t)(ht:P.underlying t=some (.array m e))(he:P.underlying e=some (.int kd))(zv:P.cellsOf e=1)(jQ:P.cellsOf t=m):
  dU T w O (.A (zs.map (aa.c kd))) g:=by
 obtain⟨g',t',cs,fuel,p,h1,h2,h3,h4⟩:=PV hL hm;obtain rfl:=Option.some.inj (hg.symm.trans h1);obtain rfl:=Option.some.inj (IC.symm.trans h2);subst hd;obtain⟨k,hl,pf⟩:=PW ht zv jQ h4;refine J4 hO hg h3 (J3 (by simpa using hl) (λi u hu=> ?_));rw[fX]at hu;cases hs:zs[i]? with
 |none=>rw[hs]at hu;cases hu
 |some s=>rw[hs]at hu;injection hu with hu;subst hu;obtain⟨v,q,hv,hq⟩:=pf i (.lit (.int kd s)) (by rw[fX,hs];rfl);obtain⟨b,hb,hx,_⟩:=DataW.trod_int he hq;injection hb with hb;subst hb;injection hx with hx _;injection hx with hx;injection hx with _ hx;subst hx;exact⟨_,hv,rfl⟩
def PY:Option (FuncId×List UInt8)->aa
 |none=>.N
 |some x=>.z x.1 [] []
def J5:Option (FuncId×List UInt8)->DataW (List UInt8)
 |none=>.nil
 |some x=>.held x.2
def aol(hO:∀b,¬O b){d:DataW Unit}(hF:funcsAt P w n d){xs rs:Array TypeId}{va:Bool}(fs:List (Option (FuncId×List UInt8)))
  (hd:d.funcsOut=.agg (fs.map J5))(hg:P.globalNamed n=some g)(IC:(P.globals[g]?).map (·.type)=some t)(ht:P.underlying t=some (.array m e))(he:P.underlying e=some (.func xs rs va))(zv:P.cellsOf e=1)(jQ:P.cellsOf t=m)
  (xw:∀x,some x∈fs->x.2≠ []/\((List.range P.funcs.size).filter λf=>(P.funcs[f]?).any (·.name.toUTF8.data.toList==x.2))=[x.1]):
  dU T w O (.A (fs.map PY)) g:=by
 obtain⟨g',t',cs,fuel,p,h1,h2,h3,h4⟩:=hF;obtain rfl:=Option.some.inj (hg.symm.trans h1);obtain rfl:=Option.some.inj (IC.symm.trans h2);rw[hd]at h4;obtain⟨k,hl,pf⟩:=PW ht zv jQ h4;refine J4 hO hg h3 (J3 (by simpa using hl) (λi u hu=> ?_));rw[fX]at hu;cases hs:fs[i]? with
 |none=>rw[hs]at hu;cases hu
 |some s=>
  rw[hs]at hu;injection hu with hu;subst hu;obtain⟨v,q,hv,hq⟩:=pf i (J5 s) (by rw[fX,hs];rfl);refine⟨v,hv,?_⟩;cases s with
  |none=>
   cases k with
   |zero=>simp[DataW.trod]at hq
   |succ k=>unfold DataW.trod at hq;rw[he]at hq;cases v<;>simp_all [J5,PY,ax]
  |some x=>
   obtain⟨h5,h6⟩:=xw x (eg hs);obtain⟨f0,nm⟩:=x;cases nm with
   |nil=>exact absurd rfl h5
   |cons b r=>have:=func_of_trod (f0:=f0) he h6 hq;subst this;exact⟨_,_,rfl,rfl,rfl⟩
def aom(hG:∀(O:Nat->Prop),(∀b,¬O b)->∀g,dU T w O (G g) g)(β:Nat->bd):cY T G J2 (a_ []) β w := {
 c:=λ_=>trivial
 p:=λi h=>by cases h
 d:=λi _ _ h=>by have:=h.1;cases this
 m:=λb h=>h.elim
 f:=λi h=>by have:=h.1;cases this
 n:=λg=>hG _ aca g }
def aon{c:Code}(hf:P.funcs[f]? =some fn)(gu:(fn.name== "runtime.NumGoroutine")=false)(hb:fn.body=some c){C:aq}(h:ck T G P f C){b:Bool}
  (hG:∀(O:Nat->Prop),(∀b,¬O b)->∀g,dU T w O (G g) g)
  (cN:aF T w (λ_=>False) args bh bk.toList)(hC:(C args []).D=some (.a (.p b) [])):Calls P f bk w λe w'=>e=.returned (.bool b)/\Below w.heap.size w w':=by
 have BT:aF T w (aY J2 (a_ []) (λ_=>default)) args (bW T (a_ []) (λ_=>default)) bk.toList:=
  aF.D ⟨bj _,λ_ _ _=>rfl,λb _ _=>aca b⟩ _ _ _ _ (λ_ _ h=>h.elim) cN
 have key:=h args [] _ hC aB J2 (λ_=>default) w bk (aom hG _) BT;have h1:fn.name≠ "runtime.NumGoroutine" :=by simpa using gu
 have bm:(callFunc f bk).run P w=.ok (.enter f bk) w:=by simp[callFunc,hf,h1,hb]
 rcases key with⟨_,k⟩ | ⟨x,w',k,_⟩
 ·refine k.mono (λe w' he=> ?_);cases e with
  |returned x=>obtain⟨v,mG,β',h2,gd⟩:=he;simp only[aC.a.injEq]at h2;obtain⟨rfl,rfl⟩:=h2;have hx:x=.bool b:=gd.b;subst hx;exact⟨rfl,gd.a.f,gd.a.n,gd.a.p,gd.a.c,λk hk=>gd.a.d k hk (λi hi=>by have:=hi.1;cases this)⟩
  |panicked ch=>obtain⟨_,_,_,_,h2,_⟩:=he;cases h2
  |outgrown=>exact he.elim
 ·rw[bm]at k;cases k
end
end
end Go.AH
namespace Go.AH
open Go Go.ChangeShapes Go.WideShapes Go.ChangeAt Go.RowKit
noncomputable section
section
variable{H:Type}{enc:TypeId×Value->H}{P:Program}{w:World}{base:Nat}{spare:Nat->Bool}{held:Bool}
def aoo{f:Func}{s:ChangeSpec}{apart fresh handsOn again:Bool}{W W':World}{args:Array Value}{v:Value}{ds gs:List (DataW H)}{before pa pv:List MemPlace}
  (hW:DataW.Whole enc P f.params.toList s.vars apart W args.toList ds gs before)
  (H5:∀(b:Nat)(sp:Nat->Bool)(hd:Bool),DataW.TrodAll enc P W' b sp hd f.resultTypes.toList (v.resultList f.resultTypes.size) (s.fn H (ds++gs)).results [])
  (cN:∀sp:Nat->Bool,(∀p∈before,sp p.block=true)->DataW.TrodAll enc P W' 0 sp true f.params.toList args.toList (s.fn H (ds++gs)).args pa)
  (aj0:∀sp:Nat->Bool,(∀p∈before,sp p.block=true)->DataW.TrodVars enc P W' sp s.vars (s.fn H (ds++gs)).vars pv)
  (B6:before=pa++pv)(hb:Below W.heap.size W W')
  (bH:∀(j:Nat)(t:TypeId)(r:Value),f.resultTypes[j]? =some t->(v.resultList f.resultTypes.size)[j]? =some r->Value.okWide P W' .any 0 t r):
  s.post enc P f apart fresh handsOn again W args v W':=by
 have cC:∀p∈before,p.block<W.heap.size:=λp hp=>hW.lt p hp;have hold:∀p∈before,(λb=>decide (b<W.heap.size)) p.block=true:=λp hp=>by simpa using cC p hp
 refine⟨ds,gs,before,[],pa,pv,hW,H5 _ _ _,cN _ hold,aj0 _ hold,World.keptBut_mono (λp hp=>⟨hp,?_⟩) (hb.frame (· ∈before)),λ_=> ?_⟩
 ·rw[B6,xh]at hp;exact Or.inr hp
 ·obtain⟨_,_,_,_,_,hz,hn⟩:=hW;refine⟨bH,_,_,([]++pa)++pv,⟨[]++pa,pv,trodAll_append (cN _ (λ_ _=>rfl)) (H5 _ _ _),aj0 _ (λ_ _=>rfl),rfl,?_,?_⟩,?_⟩
  ·intro b off hp;have pP:MemPlace.cell b off∈before:=by rw[B6];simpa using hp
   rw[hb.frozen (cC _ pP)];exact hz b off pP
  ·intro ha;have:=hn ha;rw[B6]at this;simpa using this
  ·intro p hp _;rw[B6];simpa using hp
end
def acd{H:Type}{enc:TypeId×Value->H}{P:Program}(hl:laidOutB P=true){W W':World}{sp':Nat->Bool}:
  ∀(ts:List TypeId)(vs:List Value)(ds:List (DataW H))(ps:List MemPlace),(ts.all λt=>P.readableRec t &&decide (t<P.types.size))=true->
   DataW.TrodAll enc P W 0 (λ_=>true) true ts vs ds ps->(∀p∈ps,W.sameAt W' p)->(∀p∈ps,sp' p.block=true)->DataW.TrodAll enc P W' 0 sp' true ts vs ds ps
 | [],_,_,_,_,h,_,_=>by obtain⟨rfl,rfl,rfl⟩:=trodAll_nil h;exact rfl
 |t::ts,_,_,_,ht,h,hs,EM=>by
  obtain⟨v,vs',d,ds',p,q,rfl,rfl,rfl,hd,hr⟩:=trodAll_cons h;simp only[ja,au,bC]at ht;have h1:=ht.1;exact⟨p,q,WideElems.Trod_stays hl h1.1 h1.2 hd (λx hx=>hs x (by simp[hx])) (λx hx=>EM x (by simp[hx])),
   acd hl ts vs' ds' q ht.2 hr (λx hx=>hs x (by simp[hx])) (λx hx=>EM x (by simp[hx])),rfl⟩
def ace(P:Program)(w:World)(fuel M:Nat)(l:List (String×DataW Unit)):Option (List (String×DataW Unit)×List (DataW (List UInt8))):=
 (DataW.laidRun P w fuel ((l.filter λx=>x.2.handleName?.isNone).map (·.1))).bind λx=>
  if nodupBits M x.2 0 &&laidRowsB P w x.2 && (l.filter λx=>x.2.handleName?.isSome &&x.2.funcsIn?.isNone).all (handleAtB P w)
  then(funcsRun P w fuel ((funcsListed l).map (·.1))).map λy=>(x.1,y)else none
def aop{P:Program}{w:World}{fuel M:Nat}{l:List (String×DataW Unit)}
  (d:ace P w fuel M l=some (l.filter λx=>x.2.handleName?.isNone,(funcsListed l).map (·.2.funcsOut))):laidMetH P l w:=by
 unfold ace at d;simp only[Option.bind_eq_some_iff]at d;obtain⟨x,hx,d⟩:=d;split at d
 ·rename_i hb;simp only[au]at hb;simp only[Option.map_eq_some_iff,Prod.mk.injEq]at d;obtain⟨y,hy,e1,e2⟩:=d;exact laidMetH_of_parts3 (fuel:=fuel) (laidMet_of_run (ps:=x.2) fuel (by rw[hx,<-e1]) (aD (nodupBits_sound hb.1.1).1) hb.1.2) hb.2 (by rw[hy,e2])
 ·cases d
end
end Go.AH
