/- A part of the proof. -/
import Derived.Test.YtkcikbcpjdccmaaGreatDoorEA
set_option linter.all false
namespace Go.AH
open Go Go.RowKit
noncomputable section
variable{i:Nat}{ob:Nat->aj}{k:Nat}{T:TypeId->bz}{G:Nat->aa}{t:TypeId}{x:Operand}{O:Nat->Prop}{b:Nat}{vs:List aa}{css:List (List Value)}{w':World}{O':Nat->Prop}{v:aa}{us:List aa}{ty:bz}{R:aa->Value->Prop}{y:Operand}{l:bd}{m j:Nat}{ks:List bY}{as L:List aa}{g:Nat}{e:TypeId}{ad:Option Addr}{news:List Value}{t2:TypeId}{n:Nat}{xs:Array Operand}{new:List aa}{c':Nat}{a0:Option Addr}{v1:aa}{α:Type}{o:Oper}{β:Nat->bd}{φ:aa->aa}{β':Nat->bd}{S:List Nat}{cl:Call}{ids:List Nat}{args:List aa}{bk:Array Value}{s:bu}{d:Option Tmp}{u:q6}{slot:Nat->aa}{p hid:List Nat}{h h':Nat->aj}{lo:Nat}{w:World}{ds:List Deferred}{draw:Bool}{hn:iP}{ol:List Oper}{sl:Nat->aa}{s':bu}{oj:Oper}{h0:Nat->aj}{β0:Nat->bd}{w0:World}
section
variable{E:bD}{P:Program}{Z:Nat->Prop}{h view:Nat->aj}{β:Nat->bd}{w:World}{s:Nat->aa}{a:Act}{fr:Nat}{o:Oper}{r:di}
def sr(h h':Nat->aj)(fr:Nat):Prop:=∀i,h' i≠h i->(h i).D=true\/(fr<=i/\i<fr+64)
structure Fu(E:bD)(Z:Nat->Prop)(h:Nat->aj)(β:Nat->bd)(w:World)(fr:Nat)(v:aa)(u:q6)(x:Value)(β':Nat->bd)(w':World):Prop where
 b:cY E.a E.b Z (bU h u) β' w'
 a:dF h β w (bU h u) β' w'
 c:ax E.a w' (aY Z (bU h u) β') v (bW E.a (bU h u) β') x
 d:sr h (bU h u) fr
def mf(E:bD)(P:Program)(Z:Nat->Prop)(h:Nat->aj)(β:Nat->bd)(w:World)(a:Act)(fr:Nat)(o:Oper)(r:di):Prop:=
 ∃v u x w' β',r=.a v u/\((execOp a.eval o).run P w=.ok (.value x) w'\/(execOp a.eval o).run P w=.ok .skip w'/\x=undef)/\Fu E Z h β w fr v u x β' w'
def fM.D(c:ed E P Z h view β w s a)(g:fM E P Z h β w a o r):mf E P Z h β w a fr o r:=by obtain⟨v,x,h1,h2,h3⟩:=g;exact⟨v,[],x,w,β,h1,.inl h2,c.d,dF.D,h3,λi hi=>absurd rfl hi⟩
def mg{ob:aj}(hi:(h i).D=true\/(fr<=i/\i<fr+64)):sr h (bU h [(i,ob)]) fr:=by
 intro j hj;by_cases Nt:j=i
 ·subst Nt;exact hi
 ·exact absurd (fj h ob Nt) hj
def ji(w:World)(ob:Obj):(w.alloc ob).heap[w.heap.size]? =some ob:=by show(w.heap.push ob)[w.heap.size]? =some ob;rw[Array.getElem?_push,if_pos rfl]
def zZ(w:World)(ob:Obj)(hk:k<w.heap.size):(w.alloc ob).heap[k]? =w.heap[k]? :=Below.heap_alloc w ob k hk
def z1(cx:cY T G Z h β w)(de:h fr=.c)(ob:Obj)(ob':aj)(cap:Nat)(jM:ob'.I=true)
  (dd:∀(O':Nat->Prop)(R':aa->Value->Prop),cz w (w.alloc ob) (aY Z h β) O'->(∀r y,bW T h β r y->R' r y)->gM T (w.alloc ob) O' R' ⟨w.heap.size,cap,false,0⟩ ob'):
  cY T G Z (bO h fr ob') (bO β fr ⟨w.heap.size,cap,false,0⟩) (w.alloc ob)/\dF h β w (bO h fr ob') (bO β fr ⟨w.heap.size,cap,false,0⟩) (w.alloc ob):=
 cx.D fr ob' _ rfl rfl rfl aB (λb hb _=>zZ w ob hb) jM (λ_=>.inr ⟨bj _,aB⟩) (by rw[de];exact trivial) (λhk hR=>dd _ _ hk hR)
def al6(c:ed E P Z h view β w s a)(de:h fr=.c)(ho:o.op=.alloc t)(he:(cj E view s fr o).D=some r):mf E P Z h β w a fr o r:=by
 simp only[cj,ho]at he;cases ht:(E.a t).D with
 |false=>simp[ht,af.D]at he
 |true=>
  simp only[ht,af.D,Option.some.injEq]at he;have row:=c.b.D ht;obtain⟨z,hz,_,_,_⟩:=row.Cv (T:=E.a) (w:=w) (O:=aY Z h β) w (bW E.a h β);have key:∀w'(O':Nat->Prop) R',aF E.a w' O' (mc (E.a t)).V R' z.cells.toList:=by intro w' O' R';obtain⟨z',hz',_,h2,_⟩:=row.Cv (T:=E.a) (w:=w') (O:=O') w R';rw[hz]at hz';simp only[Result.ok.injEq,tv]at hz';subst hz';exact h2
  obtain⟨c1,c2⟩:=z1 c.d de (.cells z.cells t) (.a false (mc (E.a t)).V) 0 rfl (λO' R' _ _=>⟨rfl,z.cells,t,ji w _,(key _ O' R').Jb⟩);refine⟨_,_,.pointer (some ⟨w.heap.size,0,none⟩),w.alloc (.cells z.cells t),_,he.symm,.inl ?_,c1,c2,⟨⟨false,_,by rw[bU,bU,dt]⟩,by rw[dt]⟩,mg (.inr ⟨bj _,ab⟩)⟩;simp[execOp,ho,Instr.alloc,hz,newVar,sf];rfl
def al7(c:ed E P Z h view β w s a)(de:h fr=.c)(ho:o.op=.box t x)(he:(cj E view s fr o).D=some r):mf E P Z h β w a fr o r:=by
 simp only[cj,ho]at he;split at he
 ·rename_i hc;simp only[au]at hc;simp only[af.D,Option.some.injEq]at he;have qS:=(c.D x).Fp (by
   cases hv:aN E s x with
   |u cs=>exact .inl rfl
   |_=>
    right;have h1:=hc.2;rw[hv]at h1;simpa[aa.V] using h1) Cz
  obtain⟨c1,c2⟩:=z1 c.d de (.cells (a.eval x).cells t) (.a false (aN E s x).V) 0 rfl (λO' R' hk hR=>⟨rfl,_,t,ji w _,(aF.D hk _ _ _ _ hR qS).Jb⟩);refine⟨_,_,.pointer (some ⟨w.heap.size,0,none⟩),w.alloc (.cells (a.eval x).cells t),_,he.symm,.inl ?_,c1,c2,⟨⟨false,_,by rw[bU,bU,dt]⟩,by rw[dt]⟩,mg (.inr ⟨bj _,ab⟩)⟩;simp[execOp,ho,Instr.box,newVar,sf];rfl
 ·simp[af.D]at he
def al8(c:ed E P Z h view β w s a)(de:h fr=.c)(ho:o.op=.makeMap t none)(he:(cj E view s fr o).D=some r):mf E P Z h β w a fr o r:=by
 simp only[cj,ho]at he;split at he
 ·simp only[af.D,Option.some.injEq]at he;obtain⟨c1,c2⟩:=z1 c.d de (.map #[] 0) (.d false t [] []) 0 rfl (λO' R' hk hR=>⟨rfl,λkt et _=>⟨aB,aB⟩,#[],0,ji w _,rfl,rfl⟩);refine⟨_,_,.map (some w.heap.size),w.alloc (.map #[] 0),_,he.symm,.inl ?_,c1,c2,⟨⟨false,_,_,_,by rw[bU,bU,dt]⟩,by rw[dt]⟩,mg (.inr ⟨bj _,ab⟩)⟩;simp[execOp,ho,Instr.makeMap]
 ·simp[af.D]at he
def bN.aas{T:TypeId->bz}{O:Nat->Prop}{t b:Nat}:∀(vs:List aa)(off:Nat)(css:List (List Value)),css.length=vs.length->(∀cs∈css,cs.length=(T t).a)->
  (∀(n:Nat)(v:aa)(cs:List Value),vs[n]? =some v->css[n]? =some cs->(cA (T t) v=true/\dm (T t) v=v)/\ax T w O v bh (qa (T t).b cs))->dH w b off css.flatten->bN T w O vs t b off
 | [],_,_,_,_,_,_=>trivial
 |v::vs,off,[],h,_,_,_=>by simp at h
 |v::vs,off,cs::css,hl,hs,hr,BK=>by
  obtain⟨h1,h2⟩:=hr 0 v cs rfl rfl;have bE:=hs cs aB;refine⟨h1,⟨cs,bE,λj u hj=>BK j u ?_,h2⟩,bN.aas vs _ css (by simpa using hl) (λx hx=>hs x (by simp[hx])) (λn v' cs' h3 h4=>hr (n+1) v' cs' (by simpa using h3) (by simpa using h4)) (λj u hj=> ?_)⟩
  ·have cC:=(List.getElem?_eq_some_iff.1 hj).1;rw[tw,lZ cC];exact hj
  ·have:=BK ((T t).a+j) u (by
    rw[tw,kx ab,bE];rw[show(T t).a+j- (T t).a=j from ab];exact hj)
   rwa[<-qI]at this
def xU:∀(css:List (List Value))(n:Nat),(∀cs∈css,cs.length=n)->css.flatten.length=css.length*n
 | [],_,_=>aB
 |cs::css,n,h=>by rw[tw,eG,xU css n (λx hx=>h x (by simp[hx])),h cs aB,eM,lu];omega
def aat:∀(css:List (List Value))(n i:Nat)(ys:List Value),(∀cs∈css,cs.length=n)->i<css.length->
  (css.set i ys).flatten=css.flatten.take (i*n)++ys++css.flatten.drop (i*n+n)
 | [],_,_,_,_,hi=>by simp at hi
 |cs::css,n,0,ys,h,_=>by have hc:=h cs aB;simp[XN,hc]
 |cs::css,n,i+1,ys,h,hi=>by
  have hc:=h cs aB;have ih:=aat css n i ys (λx hx=>h x (by simp[hx])) (by simpa using hi);have e1:List.take ((i+1)*n) (cs++css.flatten)=cs++css.flatten.take (i*n):=by rw[XO,pL (l:=cs) (by rw[hc,lu];omega),hc,show(i+1)*n-n=i*n from by rw[lu];omega]
  have e2:List.drop ((i+1)*n+n) (cs++css.flatten)=css.flatten.drop (i*n+n):=by rw[XN,tz (l:=cs) (by rw[hc,lu];omega),hc,show(i+1)*n+n-n=i*n+n from by rw[lu];omega,zj]
  rw[List.set_cons_succ,tw,ih,tw,e1,e2];simp only[jb]
structure iA(T:TypeId->bz)(w:World)(O:Nat->Prop)(t:TypeId)(vs:List aa)(css:List (List Value)):Prop where
 a:css.length=vs.length
 c:∀cs∈css,cs.length=(T t).a
 d:∀(n:Nat)(v:aa)(cs:List Value),vs[n]? =some v->css[n]? =some cs->(cA (T t) v=true/\dm (T t) v=v)/\ax T w O v bh (qa (T t).b cs)
def iA.D{t off:Nat}(e:iA T w O t vs css)(hl:dH w b off css.flatten):bN T w O vs t b off:=
 bN.aas vs off css e.a e.c e.d hl
def iA.I{t:Nat}(hk:cz w w' O O')(e:iA T w O t vs css):iA T w' O' t vs css:=
 ⟨e.a,e.c,λn v cs h1 h2=>⟨(e.d n v cs h1 h2).1,ax.D hk _ _ _ _ (λ_ _ h=>h) (e.d n v cs h1 h2).2⟩⟩
def iA.al9{t:Nat}{ys:List Value}(e:iA T w O t vs css)(hy:ys.length=(T t).a)(hf:cA (T t) v=true/\dm (T t) v=v)(hr:ax T w O v bh (qa (T t).b ys)):iA T w O t (vs.set i v) (css.set i ys):=by
 refine⟨by simp[e.a],λcs hc=> ?_,λn u cs h1 h2=> ?_⟩
 ·rcases Bx hc with h |h
  ·exact e.c cs h
  ·rw[h];exact hy
 ·rw[By]at h1 h2;by_cases hn:i=n
  ·subst hn;rw[if_pos rfl]at h1 h2;split at h1
   ·split at h2
    ·simp at h1 h2;subst h1 h2;exact⟨hf,hr⟩
    ·cases h2
   ·cases h1
  ·rw[if_neg hn]at h1 h2;exact e.d n u cs h1 h2
def iA.V{t:Nat}{dss:List (List Value)}(e:iA T w O t vs css)(f:iA T w O t us dss):iA T w O t (vs++us) (css++dss):=by
 refine⟨by simp[e.a,f.a],λcs hc=> ?_,λn u cs h1 h2=> ?_⟩
 ·rcases List.mem_append.1 hc with h |h
  ·exact e.c cs h
  ·exact f.c cs h
 ·by_cases hn:n<vs.length
  ·rw[lZ hn]at h1;rw[lZ (by rw[e.a];exact hn)]at h2;exact e.d n u cs h1 h2
  ·rw[kx ab]at h1;rw[kx (by rw[e.a];omega),e.a]at h2;exact f.d _ u cs h1 h2
def bN.Fv{T:TypeId->bz}{O:Nat->Prop}{t b:Nat}:∀{vs:List aa}{off:Nat},bN T w O vs t b off->∃css,iA T w O t vs css/\dH w b off css.flatten
 | [],_,_=>⟨[],⟨rfl,aB,aB⟩,by intro j u hj;simp at hj⟩
 |v::vs,off,⟨h1,⟨cs,h2,h3,h4⟩,h5⟩=>by
  obtain⟨css,e,hl⟩:=bN.Fv h5;refine⟨cs::css,⟨by simp[e.a],λx hx=> ?_,λn u x hu hx=> ?_⟩,λj u hj=> ?_⟩
  ·rcases List.mem_cons.1 hx with rfl |hx
   ·exact h2
   ·exact e.c x hx
  ·cases n with
   |zero=>simp at hu hx;subst hu hx;exact⟨h1,h4⟩
   |succ n=>exact e.d n u x (by simpa using hu) (by simpa using hx)
  ·rw[tw]at hj;by_cases aJ':j<cs.length
   ·rw[lZ aJ']at hj;exact h3 j u hj
   ·rw[kx ab]at hj;have:=hl _ u hj;rwa[show off+(T t).a+(j-cs.length)=off+j from ab]at this
def al_(row:dn P t ty){x:Value}(hf:cA ty v=true)(hr:ax T w O v R x)(hR:∀r y,R r y->y.oneCell'=true):qa ty.b x.cells.toList=x/\x.cells.toList.length=ty.a:=by
 have hl:aF T w O v.V R x.cells.toList:=by
  refine hr.Fp ?_ hR;have ho:=λha=>row.V ha;obtain⟨size,agg,bytes,kinds,d,eq⟩:=ty;cases agg with
  |true=>cases v<;>simp[cA]at hf;exact .inl rfl
  |false=>obtain⟨_,k,hk⟩:=ho rfl;simp only at hk;subst hk;exact .inr (Fl hf)
 have h2:=(OI row hf hl).2;refine⟨?_,h2⟩;have ho:=λha=>row.V ha;obtain⟨size,agg,bytes,kinds,d,eq⟩:=ty;cases agg with
 |true=>cases v<;>simp[cA]at hf;obtain⟨p,rfl,_⟩:=hr;rfl
 |false=>
  obtain⟨h3,k,hk⟩:=ho rfl;simp only at h3 h2;rw[h3]at h2;have:x.cells= #[x]:=by
   cases x<;>first |rfl |skip
   simp only at hk;subst hk;have:=Fl (k:=k) hf;have:=hr.OC this hR;simp[Value.oneCell']at this
  rw[this];rfl
def q9{x:Value}(hr:ax T w O v (bW T h β) x)(hn:v.gx=true):ax T w O v bh x:=hr.alD hn (λ_ _ h=>h.D)
def aau(c:ed E P Z h view β w s a){t:TypeId}(row:dn P t (E.a t)):
  ∀(parts:List (Nat×Operand))(vs vs':List aa)(css:List (List Value)),iA E.a w (aY Z h β) t vs css->tY (E.a t) (aN E s) parts vs=some vs'->
  ∃Nu,iA E.a w (aY Z h β) t vs' Nu/\Instr.fill (λi=>some (i*(E.a t).a,(E.a t).a)) css.flatten.toArray (parts.map λx=>(x.1,a.eval x.2))=some Nu.flatten.toArray
 | [],vs,vs',css,e,hf=>by simp[tY]at hf;subst hf;exact⟨css,e,rfl⟩
 | (i,x)::parts,vs,vs',css,e,hf=>by
  unfold tY at hf;split at hf
  ·rename_i hc;rw[au]at hc;split at hf
   ·rename_i hi;have hi':i<vs.length:=by
     have:decide (i<vs.length)=true:=by simpa[Ep] using hi
     simpa using this
    obtain⟨m1,m2⟩:=al_ row hc.1 (c.D x) Cz;have aKa:=q9 (c.D x) hc.2;have eo:ax E.a w (aY Z h β) (dm (E.a t) (aN E s x)) bh (qa (E.a t).b (a.eval x).cells.toList):=by rw[m1];exact aKa.Fk hc.1
    have vk:cA (E.a t) (dm (E.a t) (aN E s x))=true:=Jj hc.1;have e':=e.al9 (i:=i) m2 ⟨vk,Jc _ _⟩ eo;obtain⟨Nu,e2,BL⟩:=aau c row parts _ vs' _ e' hf;refine⟨Nu,e2,?_⟩;have hlen:=xU css _ e.c;have jO:i<css.length:=by rw[e.a];exact hi'
    have hb:i*(E.a t).a+(E.a t).a<=css.flatten.length:=by rw[hlen,<-lu];exact Eo _ jO
    have bE:(a.eval x).cells.size=(E.a t).a:=by simpa using m2
    simp only[lX,Instr.fill];have HY:¬((decide ((a.eval x).cells.size≠(E.a t).a) ||decide (i*(E.a t).a+(a.eval x).cells.size>css.flatten.toArray.size))=true):=by rw[bE];simp at hb⊢;omega
    rw[if_neg HY];have jd:=OR (a.eval x).cells.toList (i*(E.a t).a) 0 css.flatten.toArray (by rw[Bw,bE];simpa using hb);have heq:((a.eval x).cells.zipIdx.foldl (λcs (x:Value×Nat)=>cs.setIfInBounds (i*(E.a t).a+x.2) x.1) css.flatten.toArray)=(css.set i (a.eval x).cells.toList).flatten.toArray:=by apply Array.toList_inj.1;rw[<-HJ,XM,jd,aat css _ i _ e.c jO];simp[bE]
    rw[heq];exact BL
   ·cases hf
  ·cases hf
end
def Jn(z:Array Value)(hz:0<z.size):∀n:Nat,((Array.range (n*z.size)).map (z[· % z.size]!))=(List.replicate n z.toList).flatten.toArray:=by
 intro n;apply Array.toList_inj.1;simp only[Array.toList_map,Array.toList_range];induction n with
 |zero=>simp
 |succ n ih=>
  rw[lu,List.range_add,M3,ih,List.replicate_succ',XP];congr 1
  simp only[HK,tw,List.flatten_nil,zk];apply M4;intro i;by_cases hi:i<z.size
  ·rw[fX,List.getElem?_range hi];simp[Nat.add_mod,Nat.mod_eq_of_lt hi,hi]
  ·rw[kY (by simp;omega),kY (by simp;omega)]
section
variable{E:bD}{P:Program}{Z:Nat->Prop}{h view:Nat->aj}{β:Nat->bd}{w:World}{s:Nat->aa}{a:Act}{fr:Nat}{o:Oper}{r:di}
def iA.U(row:dn P t (T t)){z:Value}(hz:(zeroValue t).run P w=.ok z w)(n:Nat):iA T w O t (List.replicate n (gw (T t))) (List.replicate n z.cells.toList)/\z.cells.size=(T t).a:=by
 obtain⟨z',hz',h1,h2,h3⟩:=row.U (T:=T) (w:=w) (O:=O) w bh;rw[hz]at hz';simp only[Result.ok.injEq,tv]at hz';subst hz';obtain⟨f1,f2⟩:=row.alI;refine⟨⟨aB,λcs hc=> ?_,λk v cs hv hc=> ?_⟩,h3⟩
 ·rw[(List.mem_replicate.1 hc).2];simpa using h3
 ·have hv':=(List.mem_replicate.1 (eg hv)).2;have hc':=(List.mem_replicate.1 (eg hc)).2;subst hv' hc';exact⟨⟨f1,f2⟩,(OI row f1 h2).1⟩
def OY:eU<=maxLen:=by unfold eU maxLen;omega
def aav(cx:cY T G Z h β w)(de:h fr=.c)(ht:(T t).D=true)(e:iA T w (aY Z h β) t vs css)(hm:vs.length<=eU):
  cY T G Z (bU h [(fr,.b false 0 t vs)]) (bO β fr ⟨w.heap.size,vs.length,false,0⟩) (w.alloc (.cells css.flatten.toArray t))/\dF h β w (bU h [(fr,.b false 0 t vs)]) (bO β fr ⟨w.heap.size,vs.length,false,0⟩) (w.alloc (.cells css.flatten.toArray t))/\
  bW T (bU h [(fr,.b false 0 t vs)]) (bO β fr ⟨w.heap.size,vs.length,false,0⟩) (.y t fr 0 vs.length) (.slice (some ⟨w.heap.size,0,none⟩) vs.length vs.length):=by
 obtain⟨c1,c2⟩:=z1 cx de (.cells css.flatten.toArray t) (.b false 0 t vs) vs.length rfl (λO' R' hk hR=>by
  refine⟨ht,.inr ⟨rfl,css.flatten.toArray,ji w _,bj _,eb hm OY,?_,?_⟩⟩
  ·simp only[Er];rw[xU css _ e.c,e.a,gF]
  ·refine(e.I hk).D ?_;have:=dH.U (ji w (.cells css.flatten.toArray t));simpa using this)
 refine⟨c1,c2,⟨false,0,t,vs,by rw[bU,bU,dt],bj _,⟨_,_,rfl,bj _,λ_=>⟨_,_,rfl⟩⟩,λ_=>⟨rfl,rfl,by rw[dt];rfl⟩⟩⟩
def al'(c:ed E P Z h view β w s a)(de:h fr=.c)(ho:o.op=.assign (.const (.slice none 0 0)))(he:(cj E view s fr o).D=some r):mf E P Z h β w a fr o r:=by
 simp only[cj,ho]at he;split at he
 ·rename_i e hd;split at he
  ·rename_i bH;simp only[sf,af.D,Option.some.injEq]at he;obtain⟨c1,c2⟩:=c.d.D (w':=w) fr (.b false 0 e []) ⟨0,0,true,0⟩ rfl rfl rfl (bj _) (λ_ _ _=>rfl) rfl (λhn=>by cases hn) (by rw[de];exact trivial) (λ_ _=>⟨bH,.inl ⟨rfl,rfl,rfl⟩⟩);refine⟨_,_,.slice none 0 0,w,_,he.symm,.inl (by simp[execOp,ho,Act.eval]),c1,c2,⟨false,0,e,[],by rw[bU,bU,dt],bj _,⟨_,_,rfl,bj _,λh=>absurd rfl h⟩,λ_=>⟨rfl,rfl,by rw[dt];rfl⟩⟩,mg (.inr ⟨bj _,ab⟩)⟩
  ·simp[af.D]at he
 ·simp[af.D]at he
def ama(c:ed E P Z h view β w s a)(de:h fr=.c){len:Nat}{parts:Array (Nat×Operand)}(ho:o.op=.buildSlice t len parts)(he:(cj E view s fr o).D=some r):mf E P Z h β w a fr o r:=by
 simp only[cj,ho]at he;split at he
 ·rename_i e hd;split at he
  ·rename_i hc;rw[au]at hc;have hlen:=ft hc.1;have row:=c.b.D hc.2;obtain⟨hu,_⟩:=(c.b.D (jh hd aB)).I hd;cases hq:tY (E.a e) (aN E s) parts.toList (List.replicate len (gw (E.a e)))with
   |none=>
    rw[hq]at he;simp only at he;split at he
    ·simp[af.D]at he
    cases vh:p9 ((List.range len).map λi=>(i*(E.a e).a,(E.a e).a,(E.a e).b)) (aN E s) parts.toList (List.replicate len (gw (E.a e)).V).flatten with
    |none=>rw[vh]at he;simp[kC,af.D]at he
    |some cs=>
     rw[vh]at he;simp only[kC,af.D,Option.some.injEq]at he;obtain⟨z,hz,_,Ya,l4⟩:=row.U (T:=E.a) (w:=w) (O:=aY Z h β) w (bW E.a h β);have Yb:∀n:Nat,aF E.a w (aY Z h β) (List.replicate n (gw (E.a e)).V).flatten (bW E.a h β) (List.replicate n z.cells.toList).flatten:=by
      intro n;induction n with
      |zero=>exact rfl
      |succ n ih=>rw[M5,M5,tw,tw];exact Ya.U ih
     obtain⟨EK,BL,eo⟩:=Jk c (place:=λi=>some (i*(E.a e).a,(E.a e).a)) (λi off n ag hi=>by
      rw[fX]at hi;cases hr:(List.range len)[i]? with
      |none=>rw[hr]at hi;cases hi
      |some j=>
       rw[hr]at hi;have hj:j=i:=by rw[ajh]at hr;obtain⟨h1,h2⟩:=hr;simpa using h2.symm
       subst hj;simp only[jt,Option.some.injEq,Prod.mk.injEq]at hi;obtain⟨rfl,rfl,_⟩:=hi;rfl) parts.toList _ cs (List.replicate len z.cells.toList).flatten.toArray (by simpa using Yb len) vh
     obtain⟨c1,c2⟩:=z1 c.d de (.cells EK e) (.a false cs) 0 rfl (λO' R' hk hR=>⟨rfl,_,e,ji w _,(aF.D hk _ _ _ _ hR eo).Jb⟩);refine⟨_,_,.slice (some ⟨w.heap.size,0,none⟩) len len,w.alloc (.cells EK e),_,he.symm,.inl ?_,c1,c2,⟨⟨false,_,by rw[bU,bU,dt]⟩,len,bj _,by rw[dt]⟩,mg (.inr ⟨bj _,ab⟩)⟩;have lA:=row.m;have nq:¬(len*(E.a e).a>2 ^ 24):=by have:=row.q;have:len*(E.a e).a<=65536*256:=zl hlen this;omega
     have qS:((Array.range (len*(E.a e).a)).map (z.cells[· % z.cells.size]!))=(List.replicate len z.cells.toList).flatten.toArray:=by rw[<-l4];exact Jn z.cells (by rw[l4];exact lA) len
     have H2:Instr.fill (λi=>some (i*(E.a e).a,(E.a e).a)) (List.replicate len z.cells.toList).flatten.toArray (parts.map λ(i,x)=>(i,a.eval x)).toList=some EK:=by simpa using BL
     simp only[execOp,ho,Instr.buildSlice,eh,dR hu,fD,row.D];rw[if_neg nq];by_cases h0:len*(E.a e).a=0
     ·have tF:len=0:=by
       rcases Nat.mul_eq_zero.1 h0 with h |h
       ·exact h
       ·omega
      have qT:((Array.range (len*(E.a e).a)).map ((#[]:Array Value)[· % (#[]:Array Value).size]!))=(List.replicate len z.cells.toList).flatten.toArray:=by rw[h0,tF];simp
      simp only[if_pos h0,eh,fD,ju,qT,H2];rfl
     ·simp only[if_neg h0,eh,hz,fD,ju,qS,H2];rfl
   |some vs=>
    rw[hq]at he;simp only at he;obtain⟨z,hz,_⟩:=row.U (T:=E.a) (w:=w) (O:=aY Z h β) w bh;obtain⟨e0,l4⟩:=iA.U (w:=w) (O:=aY Z h β) row hz len;obtain⟨css,e1,BL⟩:=aau c row parts.toList _ vs _ e0 hq;have Nr:vs.length=len:=by
     have:∀(ps:List (Nat×Operand))(us us':List aa),tY (E.a e) (aN E s) ps us=some us'->us'.length=us.length:=by
      intro ps;induction ps with
      |nil=>intro us us' h;simp[tY]at h;rw[h]
      |cons p ps ih=>
       intro us us' h;obtain⟨i,x⟩:=p;unfold tY at h;split at h
       ·split at h
        ·rw[ih _ _ h];simp
        ·cases h
       ·cases h
     rw[this _ _ _ hq];simp
    have bm:(execOp a.eval o).run P w=.ok (.value (.slice (some ⟨w.heap.size,0,none⟩) vs.length vs.length)) (w.alloc (.cells css.flatten.toArray e)):=by
     have lA:=row.m;have nq:¬(len*(E.a e).a>2 ^ 24):=by have:=row.q;have:len*(E.a e).a<=65536*256:=zl hlen this;omega
     have qS:((Array.range (len*(E.a e).a)).map (z.cells[· % z.cells.size]!))=(List.replicate len z.cells.toList).flatten.toArray:=by rw[<-l4];exact Jn z.cells (by rw[l4];exact lA) len
     have H2:Instr.fill (λi=>some (i*(E.a e).a,(E.a e).a)) (List.replicate len z.cells.toList).flatten.toArray (parts.map λ(i,x)=>(i,a.eval x)).toList=some css.flatten.toArray:=by simpa using BL
     rw[Nr];simp only[execOp,ho,Instr.buildSlice,eh,dR hu,fD,row.D];rw[if_neg nq];by_cases h0:len*(E.a e).a=0
     ·have tF:len=0:=by
       rcases Nat.mul_eq_zero.1 h0 with h |h
       ·exact h
       ·omega
      have qT:((Array.range (len*(E.a e).a)).map ((#[]:Array Value)[· % (#[]:Array Value).size]!))=(List.replicate len z.cells.toList).flatten.toArray:=by rw[h0,tF];simp
      simp only[if_pos h0,eh,fD,ju,qT,H2];rfl
     ·simp only[if_neg h0,eh,hz,fD,ju,qS,H2];rfl
    split at he
    ·simp only[af.D,Option.some.injEq]at he;have q:∀B,cc B w (w.alloc (.cells css.flatten.toArray e)):=λB=>cc.V w _;have nb:¬aY Z h β w.heap.size:=by
      rintro(hz | ⟨i,mi,hi⟩)
      ·exact Nat.lt_irrefl _ (c.d.m _ hz)
      ·have:=(c.d.c i).D (aj.t_ mi.1) mi.2;rw[hi]at this;exact Nat.lt_irrefl _ this
     have bE:w.heap.size<(w.alloc (.cells css.flatten.toArray e)).heap.size:=by rw[zi];omega
     have j4:∀b,b<w.heap.size->(w.alloc (.cells css.flatten.toArray e)).heap[b]? =w.heap[b]? :=λb hb=>by show(w.heap.push _)[b]? =_;rw[HI hb,ku hb]
     have hk:cz w (w.alloc (.cells css.flatten.toArray e)) (aY Z h β) (aY Z h β):=⟨Nat.le_of_lt bE,λb hb _=>j4 b hb,λ_ _ ho=>ho⟩
     refine⟨_,_,.slice (some ⟨w.heap.size,0,none⟩) vs.length vs.length,w.alloc (.cells css.flatten.toArray e),β,he.symm,.inl bm,c.d.I (q 0),⟨rfl,rfl,rfl,Nat.le_of_lt bE,λb hb _=>j4 b hb,λi hi=>.inl ⟨i,hi,rfl⟩,λi=>iz.D _ _⟩,?_,λi hi=>absurd rfl hi⟩;refine⟨some ⟨w.heap.size,0,none⟩,vs.length,rfl,bj _,.inr ⟨w.heap.size,0,rfl,bE,nb,(e1.I hk).D ?_⟩⟩;have:=dH.U (ji w (.cells css.flatten.toArray e));simpa using this
    ·simp only[sf,af.D,Option.some.injEq]at he;obtain⟨c1,c2,c3⟩:=aav c.d de hc.2 e1 (by rw[Nr];unfold eU;omega);exact⟨_,_,.slice (some ⟨w.heap.size,0,none⟩) vs.length vs.length,w.alloc (.cells css.flatten.toArray e),_,he.symm,.inl bm,c1,c2,c3,mg (.inr ⟨bj _,ab⟩)⟩
  ·simp[af.D]at he
 ·simp[af.D]at he
def amb(c:ed E P Z h view β w s a)(de:h fr=.c)(ho:o.op=.makeSlice t x y)(he:(cj E view s fr o).D=some r):mf E P Z h β w a fr o r:=by
 simp only[cj,ho]at he;split at he
 ·rename_i e n m hd hn hm;obtain⟨h1,h2⟩:=aO he;simp only[au,bC]at h1;obtain⟨⟨⟨bH,h3⟩,rfl⟩,h4⟩:=h1;have row:=c.b.D bH;obtain⟨hu,_⟩:=(c.b.D (jh hd aB)).I hd;have hx:=c.D x;have hy:=c.D y;rw[hn]at hx;rw[hm]at hy;have hx':a.eval x=.int .i64 n:=hx;have hy':a.eval y=.int .i64 n:=hy;obtain⟨z,hz,_⟩:=row.U (T:=E.a) (w:=w) (O:=aY Z h β) w bh;obtain⟨e0,l4⟩:=iA.U (w:=w) (O:=aY Z h β) row hz n.toNat;have hlen:(List.replicate n.toNat (gw (E.a e))).length=n.toNat:=aB;have bm:(execOp a.eval o).run P w=.ok (.value (.slice (some ⟨w.heap.size,0,none⟩) n.toNat n.toNat)) (w.alloc (.cells (List.replicate n.toNat z.cells.toList).flatten.toArray e)):=by
   have hw:IntKind.i64.wrap n=n:=by unfold eU at h4;simp[IntKind.wrap,IntKind.bits,IntKind.signed];omega
   obtain⟨it,zt,jP,ir,HV,_⟩:=row.j;have xu:=row.p;have aKb:¬((it.bytes:Int)*n>2 ^ 48):=by rw[HV];unfold eU at h4;have:((E.a e).e:Int)*n<=32768*4294967296:=Int.mul_le_mul ab ab h3 ab;omega
   have lA:=row.m;have qS:((Array.range (n.toNat*(E.a e).a)).map (z.cells[· % z.cells.size]!))=(List.replicate n.toNat z.cells.toList).flatten.toArray:=by rw[<-l4];exact Jn z.cells (by rw[l4];exact lA) _
   simp only[execOp,ho,hx',hy',Instr.makeSlice,eh,dR hu,fD,asInt,asIntOf,ju,typeInfo,run_program,jP,hw];rw[if_neg (by simp;omega)];simp only[eh,run_askRoom,fD,row.D];by_cases h0:n.toNat*(E.a e).a=0
   ·have tF:n.toNat=0:=by
     rcases Nat.mul_eq_zero.1 h0 with h |h
     ·exact h
     ·omega
    have qT:((Array.range (n.toNat*(E.a e).a)).map ((#[]:Array Value)[· % (#[]:Array Value).size]!))=(List.replicate n.toNat z.cells.toList).flatten.toArray:=by rw[h0,tF];simp
    simp only[if_pos h0,eh,fD,ju,qT];rfl
   ·simp only[if_neg h0,eh,hz,fD,ju,qS];rfl
  split at h2
  ·simp only[af.D,Option.some.injEq]at h2;obtain⟨z',hz',_,Ya,_⟩:=row.Cv (T:=E.a) (w:=w) (O:=aY Z h β) w (bW E.a h β);have HZ:z'=z:=by rw[hz]at hz';simp only[Result.ok.injEq,tv]at hz';exact hz'.symm
   subst HZ;have Yb:∀k:Nat,aF E.a w (aY Z h β) (List.replicate k (mc (E.a e)).V).flatten (bW E.a h β) (List.replicate k z'.cells.toList).flatten:=by
    intro k;induction k with
    |zero=>exact rfl
    |succ k ih=>rw[M5,M5,tw,tw];exact Ya.U ih
   obtain⟨c1,c2⟩:=z1 c.d de (.cells (List.replicate n.toNat z'.cells.toList).flatten.toArray e) (.a false (List.replicate n.toNat (mc (E.a e)).V).flatten) 0 rfl (λO' R' hk hR=>⟨rfl,_,e,ji w _,(aF.D hk _ _ _ _ hR (by simpa using Yb n.toNat)).Jb⟩);exact⟨_,_,.slice (some ⟨w.heap.size,0,none⟩) n.toNat n.toNat,_,_,h2.symm,.inl bm,c1,c2,⟨⟨false,_,by rw[bU,bU,dt]⟩,n.toNat,bj _,by rw[dt]⟩,mg (.inr ⟨bj _,ab⟩)⟩
  ·simp only[sf,af.D,Option.some.injEq]at h2;obtain⟨c1,c2,c3⟩:=aav c.d de bH e0 (by rw[hlen];unfold eU at h4⊢;omega);refine⟨_,_,.slice (some ⟨w.heap.size,0,none⟩) (List.replicate n.toNat (gw (E.a e))).length (List.replicate n.toNat (gw (E.a e))).length,w.alloc (.cells (List.replicate n.toNat z.cells.toList).flatten.toArray e),_,h2.symm,.inl ?_,c1,c2,c3,mg (.inr ⟨bj _,ab⟩)⟩;rw[hlen];exact bm
 ·simp[af.D]at he
def aF.amc{cs:List aa}{l m:List Value}(j:Nat)(h1:aF T w O cs R l)(h2:aF T w O us R m):aF T w O (cs.take j++us++cs.drop (j+us.length)) R (l.take j++m++l.drop (j+m.length)):=by rw[h2.I];exact((h1.so j).U h2).U (h1.V _)
def aF.Fw{T:TypeId->bz}{O:Nat->Prop}{R:aa->Value->Prop}(hR:∀r y,R r y->y.oneCell'=true):∀{cs:List aa}{l:List Value},aF T w O cs R l->cs.all aa.pj=true->∀u∈l,u.oneCell'=true
 | [],l,h,_,u,hu=>by rw[show l=[]from h]at hu;cases hu
 |c::cs,l,h,hs,u,hu=>by
  obtain⟨x,r,rfl,h1,h2⟩:=h;rw[ja,au]at hs;rcases List.mem_cons.1 hu with rfl |hu
  ·exact h1.OC hs.1 hR
  ·exact aF.Fw hR h2 hs.2 u hu
def amd(c:ed E P Z h view β w s a)(hi:aN E s x=.e i j)(ho:o.op=.store t x y)(he:(cj E view s fr o).D=some r):mf E P Z h β w a fr o r:=by
 simp only[cj,ho,hi]at he;split at he
 ·rename_i cs hq;split at he
  ·rename_i hc;simp only[au]at hc;obtain⟨⟨⟨bH,h1⟩,h2⟩,h3⟩:=hc;simp only[af.D,Option.some.injEq]at he;have row:=c.b.D bH;have bE:=aV h1;have hle:=ft h2;have hx:=c.D x;rw[hi]at hx;obtain⟨_,hx⟩:=hx;have cX:=c.e.D hq aB;have dd:=c.d.c i;rw[cX]at dd;obtain⟨hn,arr,e,hb,eo⟩:=dd;have qS:=(c.D y).Fp (by
    cases hv:aN E s y with
    |u cs=>exact .inl rfl
    |_=>
     right;rw[hv]at h3;simpa[aa.V] using h3) Cz
   have hlen:=qS.I;have gS:=eo.I;have xw:=aF.Fw Cz qS h3;have Nv:(a.eval y).cells.size=(E.a t).a:=by rw[<-bE,<-hlen];simp
   have bg:=HL P (β i).a j e (a.eval y).cells.toList 0 arr w hb (by simp at gS hlen⊢;omega) xw;simp only[lW]at bg;obtain⟨W',hW'⟩:∃W',W'=w.setRow (β i).a (arr.toList.take j++(a.eval y).cells.toList++arr.toList.drop (j+(a.eval y).cells.toList.length)).toArray:=⟨_,rfl⟩
   rw[<-hW']at bg;have iu:cQ h β i:=⟨by rw[cX];rfl,hn⟩
   obtain⟨c1,c2⟩:=c.d.D (w':=W') i (.a false (cs.take j++(aN E s y).V++cs.drop (j+(aN E s y).V.length))) (β i) (by rw[hW'];rfl) (by rw[hW'];rfl) (by rw[hW'];rfl) (by rw[hW'];simp) (λb eT bL=>by rw[hW'];exact Es _ _ _ _ (lY (bL iu))) rfl (λ_=>.inl ⟨iu,rfl⟩)
    (by rw[cX];exact⟨⟨_,_,rfl⟩,rfl⟩) (λhk hR=>by
     refine⟨hn,_,e,by rw[hW'];exact Et _ _ _ _ _ _ hb,?_⟩;have jd:=eo.amc j qS;have aMW:(a.eval y).cells.toList.length=(aN E s y).V.length:=hlen;have vl:(arr.toList.take cs.length).length=cs.length:=gS;rw[pM]at vl;have e1:(cs.take j++(aN E s y).V++cs.drop (j+(aN E s y).V.length)).length=cs.length:=by simp;omega
     have e2:(arr.toList.take j++(a.eval y).cells.toList++arr.toList.drop (j+(a.eval y).cells.toList.length)).take cs.length=(arr.toList.take cs.length).take j++(a.eval y).cells.toList++(arr.toList.take cs.length).drop (j+(a.eval y).cells.toList.length):=by
      have pT:(arr.toList.take j).length=j:=by rw[pM];omega
      rw[XO,XO,eG,pT,List.take_take,List.take_take,List.drop_take,Nat.min_eq_right (by omega:j<=cs.length),XQ (by omega:j<=cs.length),pL (by omega:(a.eval y).cells.toList.length<=cs.length-j)]
     rw[e1,e2];exact aF.D hk _ _ _ _ hR jd)
   refine⟨_,_,undef,W',_,he.symm,.inr ⟨?_,rfl⟩,c1,c2,trivial,mg (.inl (by rw[cX];rfl))⟩;simp only[execOp,ho,hx,Instr.storeAt,Instr.sureAddr,storeVar,eh,ju,fD,row.D];rw[if_neg (by rw[Nv];exact λh=>h rfl),bg];rfl
  ·simp[af.D]at he
 ·simp[af.D]at he
def bN.aaw{T:TypeId->bz}{w':World}{O O':Nat->Prop}{t b:Nat}(hk:cz w w' O O'){v:aa}{cs:List Value}:∀{vs:List aa}{off k:Nat},bN T w O vs t b off->k<vs.length->
  (∀j,(j<k*(T t).a\/k*(T t).a+(T t).a<=j)->w'.cell? ⟨b,off+j,none⟩=w.cell? ⟨b,off+j,none⟩)->
  (cA (T t) v=true/\dm (T t) v=v)->cs.length=(T t).a->dH w' b (off+k*(T t).a) cs->ax T w' O' v bh (qa (T t).b cs)->bN T w' O' (vs.set k v) t b off
 | [],_,_,_,gU,_,_,_,_,_=>by simp at gU
 |u::vs,off,0,⟨h1,⟨cs0,h2,h3,h4⟩,h5⟩,_,hs,hf,hl,BK,hr=>by
  rw[List.set_cons_zero];refine⟨hf,⟨cs,hl,by simpa using BK,hr⟩,?_⟩;have same:∀(vs:List aa)(BM:Nat),off+(T t).a<=BM->bN T w O vs t b BM->bN T w' O' vs t b BM:=by
   intro vs;induction vs with
   |nil=>intro _ _ _;trivial
   |cons u vs ih=>intro BM hle ⟨g1,⟨c0,g2,g3,g4⟩,g5⟩;refine⟨g1,⟨c0,g2,λj x hj=> ?_,ax.D hk _ _ _ _ (λ_ _ h=>h) g4⟩,ih _ ab g5⟩;have:=hs (BM+j-off) (.inr ab);rw[show off+(BM+j-off)=BM+j from ab]at this;rw[this];exact g3 j x hj
  exact same vs _ (bj _) h5
 |u::vs,off,k+1,⟨h1,⟨cs0,h2,h3,h4⟩,h5⟩,gU,hs,hf,hl,BK,hr=>by
  rw[List.set_cons_succ];refine⟨h1,⟨cs0,h2,λj x hj=> ?_,ax.D hk _ _ _ _ (λ_ _ h=>h) h4⟩,?_⟩
  ·have nr:=(List.getElem?_eq_some_iff.1 hj).1;rw[hs j (.inl (by rw[lu];omega))];exact h3 j x hj
  ·refine bN.aaw hk h5 (by simpa using gU) (λj hj=> ?_) hf hl (by rw[lu]at BK;rw[show off+(T t).a+k*(T t).a=off+(k*(T t).a+(T t).a)from ab];exact BK) hr;have:=hs ((T t).a+j) (by
    rcases hj with hj |hj
    ·left;rw[lu];omega
    ·right;rw[lu];omega)
   rwa[<-qI]at this
def OZ:∀{ks ls:List bY}{as bs:List aa},bT ks as=true->bT ls bs=true->bT (ks++ls) (as++bs)=true
 | [],_,[],_,_,h=>h
 | [],_,_::_,_,h,_=>by simp[bT]at h
 |_::_,_,[],_,h,_=>by simp[bT]at h
 |k::ks,ls,a::as,bs,h,g=>by rw[bT,au]at h;simp only[u9,bT,au];exact⟨h.1,OZ h.2 g⟩
def aax:∀{ks:List bY}{as:List aa}(n:Nat),bT ks as=true->bT (ks.take n) (as.take n)=true
 |_,_,0,_=>by simp[bT]
 | [],[],n+1,_=>rfl
 | [],_::_,_,h=>by simp[bT]at h
 |_::_,[],_,h=>by simp[bT]at h
 |k::ks,a::as,n+1,h=>by rw[bT,au]at h;simp only[List.take_succ_cons,bT,au];exact⟨h.1,aax n h.2⟩
def aay:∀{ks:List bY}{as:List aa}(n:Nat),bT ks as=true->bT (ks.drop n) (as.drop n)=true
 |_,_,0,h=>by simpa using h
 | [],[],n+1,_=>rfl
 | [],_::_,_,h=>by simp[bT]at h
 |_::_,[],_,h=>by simp[bT]at h
 |k::ks,a::as,n+1,h=>by rw[bT,au]at h;simpa using aay n h.2
def Jo:∀{ks:List bY}{l:List aa},bT ks l=true->l.length=ks.length
 | [],[],_=>rfl
 | [],_::_,h=>by simp[bT]at h
 |_::_,[],h=>by simp[bT]at h
 |_::_,_::_,h=>by rw[bT,au]at h;simp[Jo h.2]
def lG(ks:List bY)(cs:List aa):Prop:=∀(i:Nat)(k:bY)(c:aa),ks[i]? =some k->cs[i]? =some c->lg k c=c
def lG.D{ls:List bY}{bs:List aa}(h:lG ks as)(g:lG ls bs)(hl:as.length=ks.length):lG (ks++ls) (as++bs):=by
 intro i k c h1 h2;by_cases hi:i<ks.length
 ·rw[lZ hi]at h1;rw[lZ ab]at h2;exact h i k c h1 h2
 ·rw[kx ab]at h1;rw[kx ab,hl]at h2;exact g _ k c h1 h2
def lG.U(n:Nat)(h:lG ks as):lG (ks.take n) (as.take n):=by
 intro i k c h1 h2;rw[rP]at h1 h2;split at h1
 ·rw[if_pos ‹_›]at h2;exact h i k c h1 h2
 ·cases h1
def lG.V(n:Nat)(h:lG ks as):lG (ks.drop n) (as.drop n):=by intro i k c h1 h2;rw[xf]at h1 h2;exact h _ k c h1 h2
def lG.I(ks:List bY)(v:aa):lG ks (gJ ks 0 v):=by intro i k c h1 h2;rw[OB ks 0 v i k h1]at h2;simp at h2;subst h2;exact OA _ _
def aaz(row:dn P t ty)(hf:cA ty v=true)(he:dm ty v=v):bT ty.d v.V=true/\lG ty.d v.V:=by
 have ho:=λha=>row.V ha;obtain⟨size,agg,bytes,kinds,d,eq⟩:=ty;cases agg with
 |true=>
  cases v<;>simp[cA]at hf;rename_i cs;have:AH.gJ kinds 0 (.u cs)=cs:=by simpa[dm] using he
  refine⟨hf,?_⟩;show lG kinds cs;rw[<-this];exact lG.I _ _
 |false=>
  obtain⟨_,k,hk⟩:=ho rfl;simp only at hk;subst hk;have hv:v.V=[v]:=by cases v<;>first |rfl | (cases k<;>simp[cA,dX]at hf)
  rw[hv];refine⟨by simpa[bT,cA] using hf,λi k' c h1 h2=> ?_⟩;cases i with
  |zero=>simp at h1 h2;subst h1 h2;exact he
  |succ i=>simp at h1
def ame(row:dn P t ty){cs:List Value}(hf:bT ty.d L=true)(hs:lG ty.d L)(hr:aF T w O L R cs):
  cA ty (mL ty.b L)=true/\dm ty (mL ty.b L)=mL ty.b L/\ax T w O (mL ty.b L) R (qa ty.b cs)/\cs.length=ty.a:=by
 have ho:=λha=>row.V ha;have hl:=row.o;have h1:=hr.I;have h2:=Jo hf;obtain⟨size,agg,bytes,kinds,d,eq⟩:=ty;simp only at hl h2;cases agg with
 |true=>have h5:=Jg (ks:=kinds) (cs:=L) (j:=0) (v:=.u L) (Jo hf) (λi=>by simp[aa.D,aa.V]) hs;refine⟨hf,dh aa.u h5,⟨cs.toArray,rfl,hr⟩,?_⟩;show cs.length=size;omega
 |false=>
  obtain⟨h3,k,hk⟩:=ho rfl;simp only at hk h3;subst hk;match L,hf,hs,hr with
  | [c],hf,hs,hr=>obtain⟨x,rest,rfl,h4,h5⟩:=hr;rw[show rest=[]from h5];exact⟨by simpa[bT,cA,mL] using hf,hs 0 k c rfl rfl,h4,by simp[h3]⟩
  | [],hf,_,_=>simp[bT]at hf
  |_::_::_,hf,_,_=>simp[bT]at hf
def amf(v:aa):aa.jD v.V=v.dP:=by cases v<;>simp[aa.V,aa.jD,aa.dP]
def amg{l:List Value}(hr:aF T w O v.V (bW T h β) l)(hn:v.gx=true):aF T w O v.V bh l:=by
 refine aF.vT _ _ _ _ (λr y hi h1=> ?_) hr;rw[amf]at hi;have he:v.dP=[]:=by simpa[aa.gx] using hn
 have bL:=h1.D;cases hq:r.dP with
 |nil=>exact absurd hq bL
 |cons i l=>have:=hi i (by rw[hq];simp);rw[he]at this;cases this
def amh(c:ed E P Z h view β w s a)(hi:aN E s x=.H i g k j)(ho:o.op=.store t x y)(he:(cj E view s fr o).D=some r):mf E P Z h β w a fr o r:=by
 simp only[cj,ho,hi]at he;split at he
 ·rename_i g' e vs hq;split at he
  ·rename_i hc;simp only[au]at hc;obtain⟨⟨⟨⟨⟨bH,hg⟩,h1⟩,h2⟩,h3⟩,h4⟩:=hc;simp only[af.D,Option.some.injEq]at he;have row:=c.b.D bH;have l3:=aV hg;subst l3;have bE:=aV h1;have hle:=ft h2;have hx:=c.D x;rw[hi]at hx;have cX:=c.e.D hq aB;obtain⟨ro,g2,t2,vs2,jv,_,_,hx⟩:=hx;rw[cX]at jv;simp only[aj.b.injEq]at jv;obtain⟨rfl,rfl,rfl,rfl⟩:=jv;obtain⟨hk,hx⟩:=hx rfl;have dd:=c.d.c i;rw[cX]at dd;obtain⟨iq,dd | ⟨hn,cur,hb,fQ,BN,fE,jw⟩⟩:=dd
   ·rw[dd.2.1]at hk;simp at hk
   ·have zy:=c.b.D iq;have j2:vs[k]? =some vs[k]:=cV hk;obtain⟨f1,f2,cs',h6,h7,h8⟩:=bN.U jw j2;obtain⟨q,Nw⟩:∃q,q=(β i).c+k*(E.a e).a:=⟨_,rfl⟩
    rw[<-Nw]at h7;rw[<-qI,<-Nw]at hx;have om:vs.getD k .m=vs[k]:=by rw[dD,j2];rfl
    rw[om,f2]at he;obtain⟨fl,fs⟩:=aaz zy f1 f2;have hold:=Cw zy f1 h6 h8;have aKc:=(c.D y).Fp (by
     cases hv:aN E s y with
     |u cs=>exact .inl rfl
     |_=>
      right;rw[hv]at h3;have:∀(ks:List bY)(v:aa),bT ks [v]=true->v.pj=true:=by
       intro ks v hh;match ks,hh with
       | [k],hh=>rw[bT,au]at hh;exact Fl hh.1
       | [],hh=>simp[bT]at hh
       |_::_::_,hh=>simp[bT]at hh
      exact this _ _ h3) Cz
    have Yc:=amg aKc h4;have rU:=Yc.Oz (ks:=((E.a e).d.drop j).take (aN E s y).V.length) (j:=0) (v:=.u (aN E s y).V) h3 (λi=>by simp[aa.D,aa.V]);have hlen:=Yc.I;have Nv:(a.eval y).cells.size=(E.a t).a:=by rw[<-bE,<-hlen];simp
    have BI:bT (((E.a e).d.drop j).take (aN E s y).V.length) (AH.gJ (((E.a e).d.drop j).take (aN E s y).V.length) 0 (.u (aN E s y).V))=true:=OQ _ _ 0 _ h3 (λi=>by simp[aa.D,aa.V]);have aKd:(E.a e).d=(E.a e).d.take j++((E.a e).d.drop j).take (aN E s y).V.length++(E.a e).d.drop (j+(aN E s y).V.length):=by rw[jb,<-MZ,XR,XR]
    have pU:=zy.o;have jx:=Jo fl;have ajw:=OZ (OZ (aax j fl) BI) (aay (j+(aN E s y).V.length) fl);have ajx:=lG.D (lG.D (fs.U j) (lG.I (((E.a e).d.drop j).take (aN E s y).V.length) (.u (aN E s y).V)) (by simp;omega)) (fs.V (j+(aN E s y).V.length)) (by simp[ZW];omega);rw[<-aKd]at ajw ajx;have EL:=((hold.so j).U rU).U (hold.V (j+(aN E s y).V.length));obtain⟨p1,p2,p3,p4⟩:=ame zy ajw ajx EL;have xw:∀u∈(a.eval y).cells.toList,u.oneCell'=true:=by
     refine aF.Fw (R:=bh) (λr y h=>h.elim) Yc ?_;have:∀(ks:List bY)(cs:List aa),bT ks cs=true->cs.all aa.pj=true:=by
      intro ks;induction ks with
      |nil=>intro cs h;cases cs<;>simp[bT]at h⊢
      |cons k ks ih=>
       intro cs h;cases cs with
       |nil=>simp[bT]at h
       |cons c cs=>rw[bT,au]at h;rw[ja,au];exact⟨Fl h.1,ih cs h.2⟩
     exact this _ _ h3
    have lA:=zy.m;have zz:q+(E.a e).a<=cur.size:=by have:k.succ*(E.a e).a<=(β i).b*(E.a e).a:=Eo _ ab;rw[lu]at this;rw[fE,Nw];omega
    have pT:j+(a.eval y).cells.size<=(E.a e).a:=by rw[Nv,<-bE];omega
    have bg:=HL P (β i).a (q+j) e (a.eval y).cells.toList 0 cur w hb (by simp;omega) xw;simp only[lW]at bg;obtain⟨W',hW'⟩:∃W',W'=w.setRow (β i).a (cur.toList.take (q+j)++(a.eval y).cells.toList++cur.toList.drop (q+j+(a.eval y).cells.toList.length)).toArray:=⟨_,rfl⟩
    rw[<-hW']at bg;have iu:cQ h β i:=⟨by rw[cX];rfl,hn⟩
    have ajy:W'.heap[(β i).a]? =some (.cells (cur.toList.take (q+j)++(a.eval y).cells.toList++cur.toList.drop (q+j+(a.eval y).cells.toList.length)).toArray e (0,0)):=by rw[hW'];exact Et _ _ _ _ _ _ hb
    have gG:∀m,W'.cell? ⟨(β i).a,m,none⟩=(cur.toList.take (q+j)++(a.eval y).cells.toList++cur.toList.drop (q+j+(a.eval y).cells.toList.length))[m]? :=by intro m;simp[World.cell?,ajy]
    have ajz:∀m,w.cell? ⟨(β i).a,m,none⟩=cur.toList[m]? :=by intro m;simp[World.cell?,hb]
    have vm:cur.toList.length=cur.size:=aB;have jy:(a.eval y).cells.toList.length=(a.eval y).cells.size:=aB;obtain⟨c1,c2⟩:=c.d.D (w':=W') i (.b false g e (vs.set k (mL (E.a e).b (vs[k].V.take j++AH.gJ (((E.a e).d.drop j).take (aN E s y).V.length) 0 (.u (aN E s y).V)++vs[k].V.drop (j+(aN E s y).V.length))))) (β i) (by rw[hW'];rfl) (by rw[hW'];rfl) (by rw[hW'];rfl) (by rw[hW'];simp) (λb eT bL=>by rw[hW'];exact Es _ _ _ _ (lY (bL iu))) rfl (λ_=>.inl ⟨iu,rfl⟩)
     (by rw[cX];exact⟨_,_,_,_,rfl,bj _,λ_=>⟨rfl,aB,rfl⟩⟩) (λjf hR=>by
      refine⟨iq,.inr ⟨hn,_,ajy,by simpa using fQ,BN,?_,?_⟩⟩
      ·simp only[Er,eG,pM,tA,vm,jy];rw[<-fE];omega
      ·refine bN.aaw jf jw hk (λm hm=> ?_) ⟨p1,p2⟩ p4 (λm u hm=> ?_) (ax.D jf _ _ _ _ (λ_ _ h=>h) p3)
       ·rw[gG,ajz];rcases hm with hm |hm
        ·rw[jb,lZ (by simp[vm];omega),rP,if_pos ab]
        ·rw[kx (by simp[vm,jy];omega),xf];congr 1
         simp[vm,jy];omega
       ·rw[<-Nw,gG];have h7':∀(m:Nat)(u:Value),cs'[m]? =some u->cur.toList[q+m]? =some u:=λm u hm=>by rw[<-ajz];exact h7 m u hm
        have aMX:cs'.length=(E.a e).a:=h6;rw[<-hlen]at hm;by_cases aMY:m<j
        ·rw[jb,lZ (by simp;omega),rP,if_pos ab]at hm;rw[jb,lZ (by simp[vm];omega),rP,if_pos ab];exact h7' m u hm
        ·by_cases aJ4:m<j+(a.eval y).cells.size
         ·rw[lZ (by simp[jy];omega),kx (by simp;omega)]at hm;rw[lZ (by simp[vm,jy];omega),kx (by simp[vm];omega)];rw[<-hm];congr 1
          simp[vm];omega
         ·rw[kx (by simp[jy];omega),xf]at hm;rw[kx (by simp[vm,jy];omega),xf];have:=h7' _ u hm;rw[<-this];congr 1
          simp[vm,jy];omega)
    refine⟨_,_,undef,W',_,he.symm,.inr ⟨?_,rfl⟩,c1,c2,trivial,mg (.inl (by rw[cX];rfl))⟩;simp only[execOp,ho,hx,Instr.storeAt,Instr.sureAddr,storeVar,eh,ju,fD,row.D];rw[if_neg (by rw[Nv];exact λh=>h rfl),bg];rfl
  ·simp[af.D]at he
 ·simp[af.D]at he
end
section
variable{E:bD}{P:Program}{Z:Nat->Prop}{h view:Nat->aj}{β:Nat->bd}{w:World}{s:Nat->aa}{a:Act}{fr:Nat}{o:Oper}{r:di}
def Jp(w:World)(e:TypeId)(size:Nat)(l:bd)(n:Nat)(xs:List Value):Prop:=
 (l.d=true/\n=0/\l.b=0)\/(l.d=false/\∃cur,w.heap[l.a]? =some (.cells cur e (0,0))/\n<=l.b/\l.b<=maxLen/\cur.size=l.c+l.b*size/\(cur.toList.drop l.c).take (n*size)=xs)
def ami(t ty e:TypeId)(i:TypeInfo)(ht:P.underlying t=some (.slice e))(hi:P.info? e=some i)
  (g off iv ns:Nat)(cur:Array Value)(hg:w.heap[g]? =some (.cells cur e (0,0)))
  (a:Addr)(m c:Nat)(news:List Value)(hl:news.length=m*i.size)(aKe:∀j u,news[j]? =some u->w.cell? (a.add j)=some u)(h1:∀u∈news,u.oneCell'=true)
  (vn:iv+m<=ns)(zz:off+iv*i.size+news.length<=cur.size):
  (Builtin.append_ #[t,t] ty #[.slice (some ⟨g,off,none⟩) iv ns,.slice (some a) m c]).run P w=
   .ok (.slice (some ⟨g,off,none⟩) (iv+m) ns) (w.setRow g (cur.toList.take (off+iv*i.size)++news++cur.toList.drop (off+iv*i.size+news.length)).toArray):=by
 have hf:=run_firstCells_some (P:=P) w i.size m a m c news hl aKe;have bg:=HL P g (off+iv*i.size) e news 0 cur w hg (by simpa using zz) h1;simp only[lW]at bg;simp[Builtin.append_,dR ht,sizeOf,typeInfo,hi,Builtin.lenOf,vn,hf,i_,bg]
structure Jq(P:Program)(w:World)(t t2 ty e:TypeId)(x:Value)(m:Nat)(news:List Value):Prop where
 a:m=0->∀(b:Option Addr)(n c:Nat),n<=c->(∀i,P.info? e=some i->(Builtin.append_ #[t,t2] ty #[.slice b n c,x]).run P w=.ok (.slice b n c) w)
 h:∀i z,P.info? e=some i->i.zero=some z->news.length=m*i.size->0<m->(m:Int)<=9223372036854775807->m*i.bytes<=281474976710656->
  (Builtin.append_ #[t,t2] ty #[.slice none 0 0,x]).run P w=.ok (.slice (some ⟨w.heap.size,0,none⟩) m (grownCap w m 0 e)) (w.drew.alloc (.cells (news.toArray++Builtin.zeroCells z.cells (grownCap w m 0 e-m)) e))
 d:∀i,P.info? e=some i->news.length=m*i.size->(∀u∈news,u.oneCell'=true)->0<m->∀(g off iv ns:Nat)(cur:Array Value),w.heap[g]? =some (.cells cur e (0,0))->iv+m<=ns->off+iv*i.size+news.length<=cur.size->
  (Builtin.append_ #[t,t2] ty #[.slice (some ⟨g,off,none⟩) iv ns,x]).run P w=.ok (.slice (some ⟨g,off,none⟩) (iv+m) ns) (w.setRow g (cur.toList.take (off+iv*i.size)++news++cur.toList.drop (off+iv*i.size+news.length)).toArray)
 f:∀i z,P.info? e=some i->i.zero=some z->news.length=m*i.size->0<m->∀(b:Addr)(iv ns:Nat)(H3:List Value),H3.length=iv*i.size->(∀j v,H3[j]? =some v->w.cell? (b.add j)=some v)->ns<iv+m->((iv+m:Nat):Int)<=9223372036854775807->Builtin.nextslicecap (iv+m) ns*i.bytes<=281474976710656->
  (Builtin.append_ #[t,t2] ty #[.slice (some b) iv ns,x]).run P w=.ok (.slice (some ⟨w.heap.size,0,none⟩) (iv+m) (grownCap w (iv+m) ns e)) (w.drew.alloc (.cells (H3.toArray++news.toArray++Builtin.zeroCells z.cells (grownCap w (iv+m) ns e- (iv+m))) e))
def O1{ty:TypeId}(hu:P.underlying t=some (.slice e)){c:Nat}(k_:m=0\/∃b,ad=some b/\∀j u,news[j]? =some u->w.cell? (b.add j)=some u):Jq P w t t ty e (.slice ad m c) m news := {
 a hm b n c' tI i hi:=by subst hm;cases ad<;>cases b<;>simp[Builtin.append_,dR hu,sizeOf,typeInfo,hi,Builtin.lenOf,Builtin.firstCells,loadCells,loadCellsFrom,tI,storeCells]
 h i z hi hz hl h0 h63 h48:=by obtain⟨b,rfl,gG⟩:=k_.resolve_left ab;exact run_append_nil (P:=P) w t ty e i z hu hi hz b m c news hl gG h0 h63 h48
 d i hi hl h1 h0 g off iv ns cur hg vn zz:=by obtain⟨b,rfl,gG⟩:=k_.resolve_left ab;exact ami (P:=P) t ty e i hu hi g off iv ns cur hg b m c news hl gG h1 vn zz
 f i z hi hz hl h0 b iv ns H3 dT holds hg h63 zz:=by obtain⟨b',rfl,gG⟩:=k_.resolve_left ab;exact run_append_grow (P:=P) w t ty e i z hu hi hz b iv ns H3 dT holds b' m c news hl gG hg h63 zz }
def amj{ty:TypeId}{T:bz}(row:dn P e T)(hu:P.underlying t=some (.slice e)){xs:List Value}(BO:xs.length=n*T.a)(hl:Jp w e T.a l n xs)
 {x:Value}(gS:news.length=m*T.a)(k_:Jq P w t t2 ty e x m news)(h1:∀u∈news,u.oneCell'=true)(l8:n+m<=eU):
  ∃l' w',(Builtin.append_ #[t,t2] ty #[.slice l.D n l.b,x]).run P w=.ok (.slice l'.D (n+m) l'.b) w'/\
   w'.os=w.os/\w'.tape=w.tape/\w'.output=w.output/\w.heap.size<=w'.heap.size/\(∀b,b<w.heap.size->(l.d=false->l.a≠b)->w'.heap[b]? =w.heap[b]?)/\
   (l'.d=false->(l.d=false/\l'.a=l.a)\/(w.heap.size<=l'.a/\l'.a<w'.heap.size))/\
   Jp w' e T.a l' (n+m) (xs++news)/\(l'.d=true->n+m=0):=by
 obtain⟨i,z,hi,hs,xu,hz,_,pR,qP⟩:=row.j;have bE:=row.m;have vo:=row.p;have aKf:eU=4294967296:=rfl;have l4:z.cells.size=i.size:=by
  have h3:=row.U (T:=λ_=>T) (w:=w) (O:=λ_=>False) w bh;obtain⟨z',h4,_,_,h5⟩:=h3;have:(zeroValue e).run P w=.ok z w:=by simp[zeroValue,typeInfo,hi,hz]
  rw[this]at h4;simp only[Result.ok.injEq,tv]at h4;subst h4;rw[hs];exact h5
 rw[<-hs]at BO hl gS⊢;have H4:(n+m)*i.bytes<=140737488355328:=by rw[xu];have:(n+m)*T.e<=4294967296*32768:=zl ab vo;omega
 have h63:n+m<=maxLen:=eb l8 OY;have aMZ:n+m<=9223372036854775807:=ab;have hlen:(xs++news).length=(n+m)*i.size:=by rw[eG,BO,gS,tu]
 have grown:∀(old:Nat)(l':bd),l'=⟨w.heap.size,grownCap w (n+m) old e,false,0⟩->∀w',w'=w.drew.alloc (.cells (xs.toArray++news.toArray++Builtin.zeroCells z.cells (grownCap w (n+m) old e- (n+m))) e)->
   w'.os=w.os/\w'.tape=w.tape/\w'.output=w.output/\w.heap.size<=w'.heap.size/\(∀b,b<w.heap.size->(l.d=false->l.a≠b)->w'.heap[b]? =w.heap[b]?)/\
   (l'.d=false->(l.d=false/\l'.a=l.a)\/(w.heap.size<=l'.a/\l'.a<w'.heap.size))/\
   Jp w' e i.size l' (n+m) (xs++news)/\(l'.d=true->n+m=0):=by
  rintro old l' rfl w' rfl;have BP:=M6 w (n+m) old e;have zA:grownCap w (n+m) old e<=maxLen:=XS w (n+m) old e h63;refine⟨rfl,rfl,rfl,aB,λb hb _=>zZ w.drew _ hb,λ_=>.inr ⟨bj _,aB⟩,.inr ⟨rfl,_,ji w.drew _,BP,zA,?_,?_⟩,λh=>(by cases h)⟩
  ·simp only[HM,Er,XT,l4,BO,gS,<-tu,gF];congr 1
   omega
  ·simp only[Array.toList_append,jb];rw[<-jb,<-hlen];exact M7
 rcases hl with⟨hn,rfl,qT⟩ | ⟨hn,cur,hb,tI,zA,fE,Yd⟩
 ·have hx:xs=[]:=xg (by simpa using BO);subst hx;rw[show l.D=none from by simp[bd.D,hn],qT];by_cases hm:m=0
  ·subst hm;have Ye:news=[]:=xg (by simpa using gS);subst Ye;refine⟨l,w,?_,rfl,rfl,rfl,bj _,λ_ _ _=>rfl,λh=>(by rw[hn]at h;cases h),.inl ⟨hn,rfl,qT⟩,λ_=>rfl⟩;have h0:=k_.a rfl none 0 0 (bj _) i hi;rw[show l.D=none from by simp[bd.D,hn],qT];simpa using h0
  ·have hr:=k_.h i z hi hz gS ab ab (by simp only[gF]at H4;omega);have Nx:=grown 0 _ rfl _ rfl;simp only[gF,zj,Array.empty_append]at Nx⊢;exact⟨⟨w.heap.size,grownCap w m 0 e,false,0⟩,_,hr,by simpa using Nx⟩
 ·rw[show l.D=some ⟨l.a,l.c,none⟩from by simp[bd.D,hn]];by_cases hm:m=0
  ·subst hm;have Ye:news=[]:=xg (by simpa using gS);subst Ye;refine⟨l,w,?_,rfl,rfl,rfl,bj _,λ_ _ _=>rfl,λ_=>.inl ⟨hn,rfl⟩,.inr ⟨hn,cur,hb,tI,zA,fE,by simpa using Yd⟩,λh=>(by rw[hn]at h;cases h)⟩;rw[show l.D=some ⟨l.a,l.c,none⟩from by simp[bd.D,hn]];simpa using k_.a rfl (some ⟨l.a,l.c,none⟩) n l.b tI i hi
  ·have ajA:0<m:=ab;by_cases vn:n+m<=l.b
   ·have zz:l.c+n*i.size+news.length<=cur.size:=by have:(n+m)*i.size<=l.b*i.size:=Eo _ vn;rw[tu]at this;rw[gS,fE];omega
    have hr:=k_.d i hi gS h1 ajA l.a l.c n l.b cur hb vn zz;rw[show(some ⟨l.a,l.c,none⟩:Option Addr)=l.D from by simp[bd.D,hn]]at hr⊢;refine⟨l,_,hr,rfl,rfl,rfl,aB,λk _ hk=>Es w l.a k _ (lY (hk hn)),λ_=>.inl ⟨hn,rfl⟩,.inr ⟨hn,_,Et w l.a cur _ e _ hb,vn,zA,?_,?_⟩,λh=>(by rw[hn]at h;cases h)⟩
    ·simp only[Er,eG,pM,tA,Bw];omega
    ·have gT:(cur.toList.take l.c).length=l.c:=by rw[pM,Bw];omega
     have EM:cur.toList.take (l.c+n*i.size)=cur.toList.take l.c++xs:=by rw[<-Yd,List.take_add]
     rw[EM,jb,jb,XN,List.drop_eq_nil_of_le ab,gT,ni,oc,zj,<-jb,<-hlen];exact M7
   ·have holds:∀j u,xs[j]? =some u->w.cell? ((⟨l.a,l.c,none⟩:Addr).add j)=some u:=λj u hj=>by
     rw[i_,cell_of_row w _ _ cur e (0,0) hb];rw[<-Yd,rP]at hj;split at hj
     ·rw[xf]at hj;simpa using hj
     ·cases hj
    have hr:=k_.f i z hi hz gS ajA ⟨l.a,l.c,none⟩ n l.b xs BO holds ab ab (XU ab H4);exact⟨⟨w.heap.size,grownCap w (n+m) l.b e,false,0⟩,_,hr,grown l.b _ rfl _ rfl⟩
def aaA:∀(ks:List bY)(cs:List aa),bT ks cs=true->cs.all aa.pj=true
 | [],[],_=>rfl
 | [],_::_,h=>by simp[bT]at h
 |_::_,[],h=>by simp[bT]at h
 |k::ks,c::cs,h=>by rw[bT,au]at h;rw[ja,au];exact⟨Fl h.1,aaA ks cs h.2⟩
def iA.amk(row:dn P t (T t))(e:iA T w O t vs css):∀u∈css.flatten,u.oneCell'=true:=by
 intro u hu;obtain⟨cs,fE,hu⟩:=List.mem_flatten.1 hu;obtain⟨n,hn,rfl⟩:=M8 fE;have oh:n<vs.length:=by rw[<-e.a];exact hn
 obtain⟨⟨f1,f2⟩,f3⟩:=e.d n vs[n] css[n] (cV oh) (cV hn);have h1:=Cw row f1 (e.c _ fE) f3;exact aF.Fw (R:=bh) (λ_ _ h=>h.elim) h1 (aaA _ _ (aaz row f1 f2).1) u hu
def aml(hT:cH P E.a)(cx:cY E.a E.b Z h β w){ty:TypeId}(bH:(E.a e).D=true)(hu:P.underlying t=some (.slice e))(hi:h i=.b false g e vs)(hk:k<=vs.length)
 {x:Value}(k_:∃dss,iA E.a w (aY Z h β) e new dss/\Jq P w t t2 ty e x new.length dss.flatten)(l8:k+new.length<=eU):
  ∃l' w',(Builtin.append_ #[t,t2] ty #[.slice (β i).D k (β i).b,x]).run P w=.ok (.slice l'.D (k+new.length) l'.b) w'/\
   cY E.a E.b Z (bO h i (.b false (g+1) e (vs.take k++new))) (bO β i l') w'/\dF h β w (bO h i (.b false (g+1) e (vs.take k++new))) (bO β i l') w'/\k+new.length<=l'.b/\(k+new.length≠0->l'.d=false):=by
 have row:=hT.D bH;have dd:=cx.c i;rw[hi]at dd;have hold:∃css,iA E.a w (aY Z h β) e (vs.take k) css/\Jp w e (E.a e).a (β i) k css.flatten:=by
  obtain⟨_,⟨h1,rfl,h3⟩ | ⟨hn,cur,hb,fQ,BN,fE,jw⟩⟩:=dd
  ·simp at hk;subst hk;exact⟨[],⟨rfl,aB,aB⟩,.inl ⟨h1,rfl,h3⟩⟩
  ·have h0:=bN.I vs 0 k jw;simp only[oc,Em,lW]at h0;obtain⟨css,e1,hl⟩:=h0.Fv;refine⟨css,e1,.inr ⟨hn,cur,hb,ab,BN,fE,?_⟩⟩;have j5:=xU css _ e1.c;rw[e1.a,pM,XQ hk]at j5;have X':(β i).c+k*(E.a e).a<=cur.size:=by have:k*(E.a e).a<=(β i).b*(E.a e).a:=Eo _ ab;omega
   apply M4;intro j;by_cases hj:j<k*(E.a e).a
   ·have nr:css.flatten[j]? =some (css.flatten[j]'ab):=cV ab;have:=hl j _ nr;rw[cell_of_row w _ _ cur e (0,0) hb]at this;rw[rP,if_pos hj,xf,nr,<-this];simp
   ·rw[kY (by simp;omega),kY ab]
 obtain⟨css,e1,Ny⟩:=hold;obtain⟨dss,e2,tJ⟩:=k_;have lB:=xU css _ e1.c;rw[e1.a,pM,XQ hk]at lB;have cL:=xU dss _ e2.c;rw[e2.a]at cL;obtain⟨l',w',bm,g1,g2,g3,g4,g5,g6,g7,g8⟩:=amj (ty:=ty) row hu lB Ny cL tJ (e2.amk row) l8;have iu:cQ h β i↔(β i).d=false:=by simp[cQ,hi,aj.I]
 obtain⟨c1,c2⟩:=cx.D (w':=w') i (.b false (g+1) e (vs.take k++new)) l' g1 g2 g3 g4 (λb hb bL=>g5 b hb (λhn=>bL (iu.2 hn))) rfl
  (λhn=>by
   rcases g6 hn with⟨h1,h2⟩ |h1
   ·exact .inl ⟨iu.2 h1,h2⟩
   ·exact .inr h1)
  (by rw[hi];exact⟨_,_,_,_,rfl,ab,λh=>ab⟩)
  (λjf hR=>by
   refine⟨bH,?_⟩;rcases g7 with⟨h1,h2,h3⟩ | ⟨h1,aKg,h2,h3,h4,h5,h6⟩
   ·left;refine⟨h1,?_,h3⟩;have:k=0/\new=[]:=⟨ab,xg ab⟩
    rw[this.1,this.2];rfl
   ·right;refine⟨h1,aKg,h2,by simp;omega,h4,h5,?_⟩;refine((e1.V e2).I jf).D ?_;rw[XP,<-h6];have h7:=(dH.U h2).D l'.c;rw[gF]at h7;exact h7.I _)
 refine⟨l',w',bm,c1,c2,?_,λbL=> ?_⟩
 ·rcases g7 with⟨_,h2,h3⟩ | ⟨_,_,_,h3,_⟩<;>omega
 ·cases hq:l'.d with
  |false=>rfl
  |true=>exact absurd (g8 hq) bL
def Jr(hT:cH P E.a)(cx:cY E.a E.b Z h β w){ty:TypeId}(bH:(E.a e).D=true)(hu:P.underlying t=some (.slice e))(hi:h i=.b false g e vs)(hk:k<=vs.length)
 (k_:new=[]\/∃b o,ad=some ⟨b,o,none⟩/\bN E.a w (aY Z h β) new e b o)(l8:k+new.length<=eU):
  ∃l' w',(Builtin.append_ #[t,t] ty #[.slice (β i).D k (β i).b,.slice ad new.length c']).run P w=.ok (.slice l'.D (k+new.length) l'.b) w'/\
   cY E.a E.b Z (bO h i (.b false (g+1) e (vs.take k++new))) (bO β i l') w'/\dF h β w (bO h i (.b false (g+1) e (vs.take k++new))) (bO β i l') w'/\k+new.length<=l'.b/\(k+new.length≠0->l'.d=false):=by
 refine aml hT cx bH hu hi hk ?_ l8;rcases k_ with rfl | ⟨b,o',rfl,jw⟩
 ·exact⟨[],⟨rfl,aB,aB⟩,O1 hu (.inl rfl)⟩
 ·obtain⟨dss,e2,hl⟩:=jw.Fv;exact⟨dss,e2,O1 hu (.inr ⟨_,rfl,λj u hj=>by rw[i_];exact hl j u hj⟩)⟩
def O2(hT:cH P E.a)(cx:cY E.a E.b Z h β w){ty:TypeId}(bH:(E.a e).D=true)(hu:P.underlying t=some (.slice e)){γ:Nat}(hk:∀vs' l',iz (h k) (β k) (.b false γ e vs') l')
 (aKh:vs=[]\/∃b o,a0=some ⟨b,o,none⟩/\bN E.a w (aY Z h β) vs e b o)(k_:∃b o,ad=some ⟨b,o,none⟩/\bN E.a w (aY Z h β) new e b o)(bL:0<new.length)(l8:vs.length+new.length<=eU):
  ∃l' w',(Builtin.append_ #[t,t] ty #[.slice a0 vs.length vs.length,.slice ad new.length c']).run P w=.ok (.slice l'.D (vs.length+new.length) l'.b) w'/\
   cY E.a E.b Z (bO h k (.b false γ e (vs++new))) (bO β k l') w'/\dF h β w (bO h k (.b false γ e (vs++new))) (bO β k l') w'/\vs.length+new.length<=l'.b/\l'.d=false/\l'.c=0:=by
 have row:=hT.D bH;obtain⟨i,z,hi,hs,xu,hz,_,pR,qP⟩:=row.j;have bE:=row.m;have vo:=row.p;have aKf:eU=4294967296:=rfl;have l4:z.cells.size=i.size:=by
  have h3:=row.U (T:=λ_=>(E.a e)) (w:=w) (O:=λ_=>False) w bh;obtain⟨z',h4,_,_,h5⟩:=h3;have:(zeroValue e).run P w=.ok z w:=by simp[zeroValue,typeInfo,hi,hz]
  rw[this]at h4;simp only[Result.ok.injEq,tv]at h4;subst h4;rw[hs];exact h5
 obtain⟨b,o',rfl,jw⟩:=k_;obtain⟨dss,e2,gS⟩:=jw.Fv;have cL:=xU dss _ e2.c;rw[e2.a]at cL;have hold:∃css,iA E.a w (aY Z h β) e vs css/\(vs=[]\/∃b,a0=some b/\∀j u,css.flatten[j]? =some u->w.cell? (b.add j)=some u):=by
  rcases aKh with rfl | ⟨b0,o0,rfl,h0⟩
  ·exact⟨[],⟨rfl,aB,aB⟩,.inl rfl⟩
  ·obtain⟨css,e1,hl⟩:=h0.Fv;exact⟨css,e1,.inr ⟨_,rfl,λj u hj=>by rw[i_];exact hl j u hj⟩⟩
 obtain⟨css,e1,Ny⟩:=hold;have lB:=xU css _ e1.c;rw[e1.a]at lB;have H4:(vs.length+new.length)*i.bytes<=140737488355328:=by rw[xu];have:(vs.length+new.length)*(E.a e).e<=4294967296*32768:=zl ab vo;omega
 have h63:vs.length+new.length<=maxLen:=eb l8 OY;rw[<-hs]at lB cL;obtain⟨pV,w',bm,hw',fQ,aKi⟩:∃pV w',(Builtin.append_ #[t,t] ty #[.slice a0 vs.length vs.length,.slice (some ⟨b,o',none⟩) new.length c']).run P w=.ok (.slice (some ⟨w.heap.size,0,none⟩) (vs.length+new.length) pV) w'/\
   w'=w.drew.alloc (.cells (css.flatten.toArray++dss.flatten.toArray++Builtin.zeroCells z.cells (pV- (vs.length+new.length))) e)/\vs.length+new.length<=pV/\pV<=maxLen:=by
  have gG:∀j u,dss.flatten[j]? =some u->w.cell? ((⟨b,o',none⟩:Addr).add j)=some u:=λj u hj=>by rw[i_];exact gS j u hj
  cases a0 with
  |none=>
   obtain rfl:vs=[]:=by
    rcases Ny with h | ⟨_,h,_⟩
    ·exact h
    ·cases h
   have fE:css=[]:=xg e1.a;subst fE;have hr:=run_append_nil (P:=P) w t ty e i z hu hi hz ⟨b,o',none⟩ new.length c' dss.flatten cL gG ab (by simp only[rQ,gF]at l8;omega) (by simp only[rQ,gF]at H4;omega);exact⟨_,_,by simpa using hr,aB,by simpa using M6 w new.length 0 e,by simpa using XS w new.length 0 e (by simpa using h63)⟩
  |some b0=>
   have h0:∀j u,css.flatten[j]? =some u->w.cell? (b0.add j)=some u:=by
    rcases Ny with rfl | ⟨b1,o8,h0⟩
    ·have fE:css=[]:=xg e1.a;subst fE;simp
    ·injection o8 with o8;subst o8;exact h0
   have hr:=run_append_grow (P:=P) w t ty e i z hu hi hz b0 vs.length vs.length css.flatten lB h0 ⟨b,o',none⟩ new.length c' dss.flatten cL gG ab ab (XU ab H4);exact⟨_,_,hr,rfl,M6 w _ _ e,XS w _ _ e h63⟩
 refine⟨⟨w.heap.size,pV,false,0⟩,w',bm,?_⟩;have hlen:(css.flatten++dss.flatten).length=(vs.length+new.length)*i.size:=by rw[eG,lB,cL,tu]
 obtain⟨c1,c2⟩:=cx.D (w':=w') k (.b false γ e (vs++new)) ⟨w.heap.size,pV,false,0⟩ (by rw[hw'];rfl) (by rw[hw'];rfl) (by rw[hw'];rfl) (by rw[hw'];simp) (λb hb _=>by rw[hw'];exact zZ w.drew _ hb) rfl
  (λ_=>.inr ⟨bj _,by rw[hw'];simp⟩) (hk _ _)
  (λjf hR=>by
   refine⟨bH,.inr ⟨rfl,_,by rw[hw'];exact ji w.drew _,by simpa using fQ,aKi,?_,?_⟩⟩
   ·rw[<-hs];simp only[HM,Er,XT,l4,lB,cL,<-tu,gF];congr 1
    omega
   ·refine((e1.V e2).I jf).D ?_;rw[XP];have hb':w'.heap[w.heap.size]? =some (.cells (css.flatten.toArray++dss.flatten.toArray++Builtin.zeroCells z.cells (pV- (vs.length+new.length))) e):=by rw[hw'];exact ji w.drew _
    have:=(dH.U hb').I (css.flatten++dss.flatten).length;simp only[Array.toList_append,jb]at this;rw[<-jb,M7]at this;exact this)
 exact⟨c1,c2,fQ,rfl,rfl⟩
def O3{v2:aa}(h:xs.toList.map (aN E s)=[v1,v2]):∃x y,xs= #[x,y]/\aN E s x=v1/\aN E s y=v2:=by
 obtain⟨l⟩:=xs;match l,h with
 | [x,y],h=>simp at h;exact⟨x,y,rfl,h.1,h.2⟩
 | [],h=>simp at h
 | [_],h=>simp at h
 |_::_::_::_,h=>simp at h
def amm(h:xs.toList.map (aN E s)=[v1]):∃x,xs= #[x]/\aN E s x=v1:=by
 obtain⟨l⟩:=xs;match l,h with
 | [x],h=>simp at h;exact⟨x,rfl,h⟩
 | [],h=>simp at h
 |_::_::_,h=>simp at h
def aaB(f:Nat->α)(i:Nat)(x y:α):bO (bO f i x) i y=bO f i y:=by
 funext j
 unfold bO;cases Nat.beq j i<;>rfl
def amn(hT:cH P E.a)(cx:cY E.a E.b Z h β w){ty:TypeId}(bH:(E.a e).D=true)(hu:P.underlying t=some (.slice e)){o:Nat}(hi:h i=.b false g e vs)(ho:o≠0)(xq:o+m<=vs.length)
 (ha:(β i).b-o≠0->a0=some ⟨(β i).a,(β i).c+o*(E.a e).a,none⟩)(k_:new=[]\/∃b o,ad=some ⟨b,o,none⟩/\bN E.a w (aY Z h β) new e b o)(bL:0<new.length)(l8:m+new.length<=eU):
  ∃l' w',(Builtin.append_ #[t,t] ty #[.slice a0 m ((β i).b-o),.slice ad new.length c']).run P w=.ok (.slice l'.D (m+new.length) l'.b) w'/\
   cY E.a E.b Z (bO h i (.b false (g+2) e ((vs.drop o).take m++new))) (bO β i l') w'/\dF h β w (bO h i (.b false (g+2) e ((vs.drop o).take m++new))) (bO β i l') w'/\m+new.length<=l'.b/\l'.d=false:=by
 have ajB:=k_.resolve_left (λh=>by rw[h]at bL;simp at bL);have dd:=cx.c i;rw[hi]at dd;obtain⟨_,⟨h7,rfl,_⟩ | ⟨hn,cur,hb,fQ,BN,fE,jw⟩⟩:=dd
 ·simp at xq;omega
 have iu:cQ h β i:=⟨by rw[hi];rfl,hn⟩
 by_cases hc:(β i).b-o=0
 ·have hm:m=0:=ab;subst hm;obtain⟨l',w',bm,c1,c2,h3,h4,_⟩:=O2 (ty:=ty) (c':=c') (vs:=[]) (a0:=a0) (γ:=g+2) (k:=i) hT cx bH hu (λvs' l'=>by rw[hi];exact⟨_,_,_,_,rfl,ab,λh=>ab⟩) (.inl rfl) ajB bL (by simpa using l8);rw[hc];exact⟨l',w',by simpa using bm,by simpa using c1,by simpa using c2,by simpa using h3,h4⟩
 ·have ajC:=bN.I vs o (vs.length-o) jw;rw[pL aB]at ajC;obtain⟨c1,c2⟩:=cx.D (w':=w) i (.b false (g+1) e (vs.drop o)) ⟨(β i).a,(β i).b-o,false,(β i).c+o*(E.a e).a⟩ rfl rfl rfl (bj _) (λ_ _ _=>rfl) rfl (λ_=>.inl ⟨iu,rfl⟩)
   (by rw[hi];exact⟨_,_,_,_,rfl,ab,λh=>ab⟩) (λjf hR=>by
    refine⟨bH,.inr ⟨rfl,cur,hb,by simp;omega,by show(β i).b-o<=maxLen;omega,?_,bN.D jf _ _ _ _ rfl ajC⟩⟩;show cur.size=(β i).c+o*(E.a e).a+((β i).b-o)*(E.a e).a;rw[fE,qI,<-tu];congr 2
    omega)
  have hO:∀b,aY Z (bO h i (.b false (g+1) e (vs.drop o))) (bO β i ⟨(β i).a,(β i).b-o,false,(β i).c+o*(E.a e).a⟩) b->aY Z h β b:=by
   rintro b (hz | ⟨k,mk,ek⟩)
   ·exact .inl hz
   ·by_cases hk:k=i
    ·subst hk;rw[dt]at ek;exact .inr ⟨k,iu,ek⟩
    ·rw[fj _ _ hk]at ek;refine .inr ⟨k,⟨?_,?_⟩,ek⟩
     ·have:=mk.1;rwa[fj _ _ hk]at this
     ·have:=mk.2;rwa[fj _ _ hk]at this
  obtain⟨l',w',bm,d1,d2,h3,h4⟩:=Jr (ty:=ty) (c':=c') (k:=m) (new:=new) (ad:=ad) hT c1 bH hu (dt h i _) (by simp;omega) (.inr (by obtain⟨b,o',e1,e2⟩:=ajB;exact⟨b,o',e1,bN.D ⟨bj _,λ_ _ _=>rfl,λb _ h h'=>h (hO b h')⟩ _ _ _ _ rfl e2⟩)) l8;rw[dt]at bm;rw[aaB,aaB]at d1 d2;refine⟨l',w',?_,d1,c2.I d2,h3,h4 ab⟩;rw[ha hc];exact bm
def amo(c:ed E P Z h view β w s a){x:Value}(hr:ax E.a w (aY Z h β) v (bW E.a h β) x)(hl:xL v=some n):∃ad cp,x=.slice ad n cp:=by
 unfold xL at hl;split at hl
 ·obtain⟨ad,cp,rfl,_⟩:=hr;simp at hl;subst hl;exact⟨_,_,rfl⟩
 ·obtain⟨ad,rfl,_⟩:=hr;simp at hl;subst hl;exact⟨_,_,rfl⟩
 ·simp at hl;subst hl;exact⟨none,0,hr⟩
 ·obtain⟨_,_,_,_,_,_,⟨ad,cp,rfl,_⟩,_⟩:=hr;simp at hl;subst hl;exact⟨_,_,rfl⟩
 ·obtain⟨_,_,_,_,_,_,⟨ad,cp,rfl,_⟩,_⟩:=hr;simp at hl;subst hl;exact⟨_,_,rfl⟩
 ·obtain⟨_,cp,_,rfl⟩:=hr;simp at hl;subst hl;exact⟨_,_,rfl⟩
 ·cases hl
def aaC(ty:cH P E.a)(cx:cY E.a E.b Z h β w)(EN:pt view h)(de:h fr=.c){cap:Nat}
  (ho:o.op=.call ⟨.builtin .append,#[x,y],#[t,t]⟩)(bH:(E.a e).D=true)(hu:P.underlying t=some (.slice e))(hx:ax E.a w (aY Z h β) v1 (bW E.a h β) (a.eval x))(qU:a.eval y=.slice ad new.length cap)
  (tJ:new=[]\/∃b o,ad=some ⟨b,o,none⟩/\bN E.a w (aY Z h β) new e b o)(he:(I1 view fr e v1 new).D=some r):mf E P Z h β w a fr o r:=by
 unfold I1 at he;split at he
 ·obtain⟨h3,h4⟩:=aO he;simp only[bC]at h3;simp only[af.D,Option.some.injEq]at h4;have kA:a.eval x=.slice none 0 0:=hx;obtain⟨k1,k2⟩:=cx.D (w':=w) fr (.b false 0 e []) ⟨0,0,true,0⟩ rfl rfl rfl (bj _) (λ_ _ _=>rfl) rfl (λhn=>by cases hn) (by rw[de];exact trivial) (λ_ _=>⟨bH,.inl ⟨rfl,rfl,rfl⟩⟩);have aKj:new=[]\/∃b o,ad=some ⟨b,o,none⟩/\bN E.a w (aY Z (bO h fr (.b false 0 e [])) (bO β fr ⟨0,0,true,0⟩)) new e b o:=by
   rcases tJ with h1 | ⟨b,o',h1,h2⟩
   ·exact .inl h1
   ·exact .inr ⟨b,o',h1,bN.D (k2.Jh cx) new e b o' rfl h2⟩
  obtain⟨l',w',bm,c1,c2,fQ,jz⟩:=Jr (ty:=o.type) (c':=cap) (t:=t) (i:=fr) (g:=0) (k:=0) (vs:=[]) ty k1 bH hu (dt _ _ _) (bj _) aKj h3;rw[dt]at bm;have hh:bO (bO h fr (.b false 0 e [])) fr (.b false (0+1) e (List.take 0 []++new))=bO h fr (.b false 1 e new):=by
   funext k
   unfold bO;cases Nat.beq k fr<;>rfl
  rw[hh]at c1 c2;refine⟨_,_,.slice l'.D (0+new.length) l'.b,w',_,h4.symm,.inl ?_,c1,k2.I c2,?_,mg (.inr ⟨bj _,ab⟩)⟩
  ·simp only[execOp,ho,resolve,invoke,builtin,eh,ju,fD,HN,lX,Eu,kA,qU];have:bd.D ⟨0,0,true,0⟩=none:=rfl;rw[this]at bm;simp only[bm,ju,fD]
  ·refine⟨false,1,e,new,by rw[bU,bU,dt],bj _,⟨_,_,by rw[gF],by rw[<-gF new.length];exact fQ,λbL=> ?_⟩,λ_=>⟨rfl,rfl,?_⟩⟩
   ·exact⟨l'.a,l'.c,by simp[bd.D,jz ab]⟩
   ·rw[dt,gF]
 ·rename_i t' vs;split at he
  ·rename_i hg;rw[au]at hg;obtain⟨EO,xl⟩:=hg;have lA:0<new.length:=ft xl;obtain⟨h3,h4⟩:=aO he;simp only[bC]at h3;simp only[af.D,Option.some.injEq]at h4;obtain⟨a0,kA,cL⟩:=hx;have aKk:vs=[]\/∃b o,a0=some ⟨b,o,none⟩/\bN E.a w (aY Z h β) vs e b o:=by
    rcases cL with h5 | ⟨b,o',h5,_,_,h6⟩
    ·exact .inl h5
    ·cases vs with
     |nil=>exact .inl rfl
     |cons u vs=>simp at EO;obtain rfl:=EO;exact .inr ⟨b,o',h5,h6⟩
   have ir:∃b o,ad=some ⟨b,o,none⟩/\bN E.a w (aY Z h β) new e b o:=tJ.resolve_left (λh=>by rw[h]at lA;simp at lA);have aKl:a.eval x=.slice a0 vs.length vs.length:=kA;obtain⟨l',w',bm,c1,c2,fQ,jz,_⟩:=O2 (ty:=o.type) (c':=cap) ty cx bH hu (λ_ _=>by rw[de];trivial) aKk ir lA h3;refine⟨_,_,.slice l'.D (vs.length+new.length) l'.b,w',_,h4.symm,.inl ?_,c1,c2,?_,mg (.inr ⟨bj _,ab⟩)⟩
   ·simp only[execOp,ho,resolve,invoke,builtin,eh,ju,fD,HN,lX,Eu,aKl,qU,bm]
   ·refine⟨false,1,e,vs++new,by rw[bU,bU,dt],bj _,⟨_,_,by rw[eG],by rw[eG];exact fQ,λbL=> ?_⟩,λ_=>⟨rfl,rfl,by rw[dt,eG]⟩⟩;exact⟨l'.a,l'.c,by simp[bd.D,jz]⟩
  ·simp[af.D]at he
 ·rename_i tt i g n;split at he
  ·rename_i g' t' vs hq;split at he
   ·rename_i hg;rw[au]at hg;obtain⟨EO,xl⟩:=hg;obtain rfl:=aV EO;obtain rfl:=aV xl;obtain⟨h3,h4⟩:=aO he;simp only[bC]at h3;simp only[af.D,Option.some.injEq]at h4;have cX:=EN.D hq aB;obtain⟨ro2,g2,t2,vs2,jv,_,_,Yf⟩:=hx;rw[cX]at jv;simp only[aj.b.injEq]at jv;obtain⟨rfl,rfl,rfl,rfl⟩:=jv;obtain⟨rfl,rfl,kA⟩:=Yf rfl;obtain⟨l',w',bm,c1,c2,fQ,jz⟩:=Jr (ty:=o.type) (c':=cap) ty cx bH hu cX (bj _) tJ h3;rw[pL (bj _)]at c1 c2;refine⟨_,_,.slice l'.D (vs.length+new.length) l'.b,w',_,h4.symm,.inl ?_,c1,c2,?_,mg (.inl (by rw[cX];rfl))⟩
    ·simp only[execOp,ho,resolve,invoke,builtin,eh,ju,fD,HN,lX,Eu,kA,qU,bm]
    ·refine⟨false,g+1,_,_,by rw[bU,bU,dt],bj _,⟨_,_,by rw[eG],by rw[eG];exact fQ,λbL=> ?_⟩,λ_=>⟨rfl,rfl,by rw[dt,eG]⟩⟩;rw[eG]at bL;exact⟨l'.a,l'.c,by simp[bd.D,jz bL]⟩
   ·simp[af.D]at he
  ·simp[af.D]at he
 ·rename_i tt i g o' m;split at he
  ·rename_i g' t' vs hq;split at he
   ·simp[af.D]at he
   ·rename_i hg;rw[au]at hg;obtain⟨EO,xl⟩:=hg;obtain rfl:=aV EO;obtain rfl:=aV xl;have cX:=EN.D hq aB;obtain⟨ro2,g2,t2,vs2,jv,_,_,Yf⟩:=hx;rw[cX]at jv;simp only[aj.b.injEq]at jv;obtain⟨rfl,rfl,rfl,rfl⟩:=jv;obtain⟨rfl,xq,ad2,kA,cL⟩:=Yf rfl;split at he
    ·rename_i BQ;split at he
     ·rename_i lA;have lA:=ft lA;obtain⟨h3,h4⟩:=aO he;simp only[bC]at h3;simp only[af.D,Option.some.injEq]at h4;have Nz:o'≠0:=λh=>by subst h;cases BQ
      obtain⟨l',w',bm,c1,c2,fQ,jz⟩:=amn (ty:=o.type) (c':=cap) ty cx bH hu cX Nz xq cL tJ lA h3;have hlen:(List.take m (List.drop o' vs)++new).length=m+new.length:=by simp;omega
      refine⟨_,_,.slice l'.D (m+new.length) l'.b,w',_,h4.symm,.inl ?_,c1,c2,?_,mg (.inl (by rw[cX];rfl))⟩
      ·simp only[execOp,ho,resolve,invoke,builtin,eh,ju,fD,HN,lX,Eu,kA,qU,bm]
      ·exact⟨false,g+2,_,_,by rw[bU,bU,dt],bj _,⟨_,_,by rw[hlen],by rw[hlen];exact fQ,λ_=>⟨l'.a,l'.c,by simp[bd.D,jz]⟩⟩,λ_=>⟨rfl,rfl,by rw[dt,hlen]⟩⟩
     ·simp[af.D]at he
    rename_i BQ;obtain rfl:=aV BQ;obtain⟨h3,h4⟩:=aO he;simp only[au,bC]at h3;obtain⟨h3,h5⟩:=h3;simp only[af.D,Option.some.injEq]at h4;have hm:m<=vs.length:=ab;have dd:=cx.c i;rw[cX]at dd;have aKm:(β i).D=ad2:=by
     obtain⟨_,⟨_,h7,_⟩ | ⟨hn,cur,_,h7,_⟩⟩:=dd
     ·rw[h7]at h5;simp at h5
     ·rw[cL ab];simp[bd.D,hn]
    obtain⟨l',w',bm,c1,c2,fQ,jz⟩:=Jr (ty:=o.type) (c':=cap) ty cx bH hu cX hm tJ h3;have hlen:(List.take m (List.drop 0 vs)++new).length=m+new.length:=by simp;omega
    refine⟨_,_,.slice l'.D (m+new.length) l'.b,w',_,h4.symm,.inl ?_,c1,c2,?_,mg (.inl (by rw[cX];rfl))⟩
    ·rw[aKm]at bm;rw[M9]at kA;simp only[execOp,ho,resolve,invoke,builtin,eh,ju,fD,HN,lX,Eu,kA,qU,bm]
    ·refine⟨false,g+1,_,_,by rw[bU,bU,dt],bj _,⟨_,_,by rw[hlen],by rw[hlen];exact fQ,λbL=> ?_⟩,λ_=>⟨rfl,rfl,by rw[dt,hlen]⟩⟩;rw[hlen]at bL;exact⟨l'.a,l'.c,by simp[bd.D,jz bL]⟩
  ·simp[af.D]at he
 ·simp[af.D]at he
end
section
variable{E:bD}{P:Program}{Z:Nat->Prop}{h view:Nat->aj}{β:Nat->bd}{w:World}{s:Nat->aa}{a:Act}{fr:Nat}{o:Oper}{r:di}{T:TypeId->bz}{O:Nat->Prop}{R R':aa->Value->Prop}
def aaD{k:bY}(hp:k.D=true){a b:aa}{x y:Value}(fa:dX k a=true)(fb:dX k b=true)(ha:ax T w O a R x)(hb:ax T w O b R' y)(hs:nC a b=some true)(n:Nat):Instr.sameBits n y x=true:=by
 cases k<;>simp[bY.D]at hp
 ·cases a<;>simp[dX]at fa;cases b<;>simp[dX]at fb;rw[show x=_ from ha,show y=_ from hb];simp[nC]at hs;cases n<;>simp[Instr.sameBits,hs]
 ·cases a<;>simp[dX]at fa;cases b<;>simp[dX]at fb;subst fa fb;rw[show x=_ from ha,show y=_ from hb];simp[nC]at hs;cases n<;>simp[Instr.sameBits,hs]
 ·cases a<;>simp[dX]at fa;cases b<;>simp[dX]at fb;obtain⟨b1,rfl,h8⟩:=ha;obtain⟨b2,rfl,h10⟩:=hb;simp[nC]at hs;cases n<;>simp[Instr.sameBits,aar,h8,h10,hs]
def aaE(n:Nat):∀{ks:List bY}{as bs:List aa}{p q:List Value},ks.all bY.D=true->bT ks as=true->bT ks bs=true->aF T w O as R p->aF T w O bs R' q->p7 as bs=some true->
  q.length=p.length/\(q.zip p).all (λx=>Instr.sameBits n x.1 x.2)=true
 | [],[],[],_,_,_,_,_,h1,h2,_=>by rw[show _=[]from h1,show _=[]from h2];simp
 | [],_::_,_,_,_,_,h,_,_,_,_=>by simp[bT]at h
 | [],[],_::_,_,_,_,_,h,_,_,_=>by simp[bT]at h
 |_::_,[],_,_,_,_,h,_,_,_,_=>by simp[bT]at h
 |_::_,_::_,[],_,_,_,_,h,_,_,_=>by simp[bT]at h
 |k::ks,a::as,b::bs,_,_,hp,fa,fb,⟨x,p,e1,h1,h2⟩,⟨y,q,e2,h3,h4⟩,hs=>by
  subst e1 e2;rw[bT,au]at fa fb;rw[ja,au]at hp;unfold p7 at hs;split at hs
  ·rename_i u v hu hv;simp at hs;obtain⟨rfl,rfl⟩:=hs;obtain⟨g1,g2⟩:=aaE n hp.2 fa.2 fb.2 h2 h4 hv;refine⟨by simp[g1],?_⟩;rw[List.zip_cons_cons,ja,aaD hp.1 fa.1 fb.1 h1 h3 hu,g2];rfl
  ·cases hs
def amp{kt:TypeId}(row:dn P kt ty)(hk:p8 ty=true)(bH:ty.D=true){a b:aa}{x y:Value}(fa:cA ty a=true)(fb:cA ty b=true)(ha:ax T w O a R x)(hb:ax T w O b R' y)
  (hs:lF ty a b=true)(n:Nat):Instr.sameBits (n+1) y x=true:=by
 have gT:ty.d.all bY.D=true:=by unfold p8 at hk;rw[au]at hk;exact hk.1
 rcases Jl row hk bH with⟨k,h1,h2,h3⟩ | ⟨fs,h1,h2,h3,h4⟩
 ·simp only[cA,h2,h3]at fa fb;rw[h2]at gT;simp at gT;obtain⟨q,hq⟩:=OS gT fa fb;simp only[lF,h2,h3,Ft gT fa,Ft gT fb,hq,lr]at hs;subst hs;exact aaD gT fa fb ha hb hq _
 ·cases a<;>simp[cA,h2]at fa;cases b<;>simp[cA,h2]at fb;obtain⟨p,rfl,hp⟩:=ha;obtain⟨q,rfl,hq⟩:=hb;simp only[lF,h2,Jm gT fa,Jm gT fb]at hs;obtain⟨res,H5⟩:=OT gT fa fb;rw[H5,lr]at hs;subst hs;obtain⟨g1,g2⟩:=aaE n gT fa fb hp hq H5;simp only[Instr.sameBits,au];exact⟨by simpa using g1,g2⟩
def aF.aaF{ks:List aa}{l:List Value}(hr:aF T w O ks R l){k:aa}{x:Value}(hx:ax T w O k R x):∀(n:Nat),aF T w O (ks.set n k) R (l.set n x):=by
 intro n;induction ks generalizing l n with
 |nil=>rw[show l=[]from hr];exact rfl
 |cons u ks ih=>
  obtain⟨y,r,rfl,h1,h2⟩:=hr;cases n with
  |zero=>exact⟨x,r,rfl,hx,h2⟩
  |succ n=>exact⟨y,_,rfl,h1,ih h2 n⟩
def aaG{β:Type}(f:α->β)(g:α->α)(es:Array α)(n:Nat)(y:β)(hn:n<es.size)(hg:∀e,f (g e)=y):(es.modify n g).toList.map f=(es.toList.map f).set n y:=by
 apply M4;intro j;simp only[fX,fu,XV,By,gR,Bw];by_cases hj:n=j
 ·subst hj;simp[hn,hg]
 ·simp[hj]
def aaH{k:bY}(hp:k.D=true)(hf:dX k v=true):v.dP=[]:=by cases k<;>simp[bY.D]at hp<;>cases v<;>simp[dX]at hf<;>rfl
def aaI:∀{ks:List bY}{cs:List aa},ks.all bY.D=true->bT ks cs=true->aa.jD cs=[]
 | [],[],_,_=>rfl
 | [],_::_,_,h=>by simp[bT]at h
 |_::_,[],_,h=>by simp[bT]at h
 |k::ks,c::cs,hp,h=>by rw[bT,au]at h;rw[ja,au]at hp;rw[aa.jD,aaH hp.1 h.1,aaI hp.2 h.2];rfl
def amq(hp:ty.d.all bY.D=true)(hf:cA ty v=true):v.gx=true:=by
 obtain⟨size,agg,bytes,kinds,d,eq⟩:=ty;unfold aa.gx;cases agg with
 |true=>cases v<;>simp[cA]at hf;rw[aa.dP,aaI hp hf];rfl
 |false=>
  match kinds,hp,hf with
  | [k],hp,hf=>rw[aaH (by simpa using hp) hf];rfl
  | [],_,hf=>simp[cA]at hf
  |_::_::_,_,hf=>simp[cA]at hf
def amr(c:ed E P Z h view β w s a){m k:Operand}(ho:o.op=.mapUpdate t m k x)(he:(cj E view s fr o).D=some r):mf E P Z h β w a fr o r:=by
 simp only[cj,ho]at he;have hm:=c.D m;have hk:=c.D k;have hx:=c.D x;split at he
 ·rename_i kt et hd;have hu:=(c.b.D (jh hd aB)).OD hd;split at he
  ·rename_i hc;simp only[au]at hc;obtain⟨⟨⟨⟨⟨pS,gU⟩,ky⟩,o9⟩,lB⟩,cL⟩:=hc;have zx:=c.b.D pS;have zy:=c.b.D gU;have gT:(E.a kt).d.all bY.D=true:=by unfold p8 at o9;rw[au]at o9;exact o9.1
   split at he
   ·rename_i i hi;rw[hi]at hm;obtain⟨_,hm⟩:=hm;split at he
    ·rename_i t' ks vs hq;split at he
     ·rename_i Yg;obtain rfl:=aV Yg;simp only[af.D,Option.some.injEq]at he;have cX:=c.e.D hq aB;have dd:=c.d.c i;rw[cX]at dd;obtain⟨hn,BJ,es,clk,hb,tG,fZ⟩:=dd;obtain⟨zw,je⟩:=BJ kt et hd;have cC:=(Array.getElem?_eq_some_iff.1 hb).1;obtain⟨f,tH,qQ⟩:=OV (P:=P) (es:=es.toList) zx o9 pS ky hk tG zw;have qR:=OU (P:=P) zx o9 pS ky hk false;have iu:cQ h β i:=⟨by rw[cX];rfl,hn⟩
      have ajD:ax E.a w (aY Z h β) (aN E s k) bh (a.eval k):=q9 hk (amq gT ky);have ajE:ax E.a w (aY Z h β) (dm (E.a et) (aN E s x)) bh (a.eval x):=(q9 hx cL).Fk lB;have main:∀(es':Array MapEntry)(NA:Nat)(ks' vs':List aa),(Instr.mapUpdate t (a.eval m) (a.eval k) (a.eval x)).run P w=.ok () {w with heap:=w.heap.setIfInBounds (β i).a (.map es' NA)}->
        fL (E.a kt) (aN E s k) (dm (E.a et) (aN E s x)) ks vs=(ks',vs')->
        (∀k'∈ks',cA (E.a kt) k'=true)->(∀v'∈vs',cA (E.a et) v'=true/\dm (E.a et) v'=v')->
        aF E.a w (aY Z h β) ks' bh (es'.toList.map (·.key))->aF E.a w (aY Z h β) vs' bh (es'.toList.map (·.val))->mf E P Z h β w a fr o r:=by
       intro es' NA ks' vs' bm H6 h1 h2 h3 h4;rw[H6]at he;obtain⟨W',hW'⟩:∃W':World,W'={w with heap:=w.heap.setIfInBounds (β i).a (.map es' NA)}:=⟨_,rfl⟩
       rw[<-hW']at bm;obtain⟨c1,c2⟩:=c.d.D (w':=W') i (.d false t ks' vs') (β i) (by rw[hW']) (by rw[hW']) (by rw[hW']) (by rw[hW'];simp)
        (λb eT bL=>by rw[hW'];simp[BA,bL iu]) rfl (λ_=>.inl ⟨iu,rfl⟩) (by rw[cX];exact⟨⟨_,_,_,_,rfl⟩,rfl⟩)
        (λjf hR=>⟨hn,λkt' et' hd'=>by
         rw[hd]at hd';simp only[mK.g.injEq]at hd';obtain⟨rfl,rfl⟩:=hd';exact⟨h1,h2⟩,es',NA,by rw[hW'];simp[cC],aF.D jf _ _ _ _ (λ_ _ h=>h) h3,aF.D jf _ _ _ _ (λ_ _ h=>h) h4⟩)
       exact⟨_,_,undef,W',_,he.symm,.inr ⟨by simp[execOp,ho,bm],rfl⟩,c1,c2,trivial,mg (.inl (by rw[cX];rfl))⟩
      have fx:cA (E.a et) (dm (E.a et) (aN E s x))=true/\dm (E.a et) (dm (E.a et) (aN E s x))=dm (E.a et) (aN E s x):=⟨Jj lB,Jc _ _⟩
      rcases OW es.toList ks vs 0 tG fZ tH with⟨_,h6,h7⟩ | ⟨n,e,k',v',_,h6,h8,h9,h10,h11,_,h13,h14⟩
      ·refine main (es.push {key:=a.eval k,val:=a.eval x,born:=clk}) (clk+1) _ _ ?_ (h7 _) ?_ ?_ ?_ ?_
       ·simp[Instr.mapUpdate,hm,dR hu,aji hb,qR,qQ,h6,ajj _ hb,Result.andThen]
       ·intro k' hk';rcases List.mem_append.1 hk' with h |h
        ·exact zw _ h
        ·rw[List.mem_singleton.1 h];exact ky
       ·intro v' hv';rcases List.mem_append.1 hv' with h |h
        ·exact je _ h
        ·rw[List.mem_singleton.1 h];exact fx
       ·simpa using tG.U (us:=[aN E s k]) (m:=[a.eval k]) ⟨_,_,rfl,ajD,rfl⟩
       ·simpa using fZ.U (us:=[dm (E.a et) (aN E s x)]) (m:=[a.eval x]) ⟨_,_,rfl,ajE,rfl⟩
      ·have bL:n<es.size:=by have:=(List.getElem?_eq_some_iff.1 h8).1;simpa using this
       have nk:=amp zx o9 pS ky (zw _ (eg h9)) hk h13 h11 9999;rw[gF]at h6;refine main (es.modify n λe=>{e with key:=a.eval k,val:=a.eval x}) clk _ _ ?_ (h14 _) ?_ ?_ ?_ ?_
       ·have h8':es[n]? =some e:=by simpa using h8
        simp[Instr.mapUpdate,hm,dR hu,aji hb,qR,qQ,h6,h8',Instr.keyThatStays,nk,ajj _ hb,Result.andThen]
       ·intro k' hk';rcases Bx hk' with h |h
        ·exact zw _ h
        ·rw[h];exact ky
       ·intro v' hv';rcases Bx hv' with h |h
        ·exact je _ h
        ·rw[h];exact fx
       ·rw[aaG _ _ es n (a.eval k) bL (λ_=>rfl)];exact tG.aaF ajD n
       ·rw[aaG _ _ es n (a.eval x) bL (λ_=>rfl)];exact fZ.aaF ajE n
     ·simp[af.D]at he
    ·simp[af.D]at he
   ·simp[af.D]at he
  ·simp[af.D]at he
 ·simp[af.D]at he
end
def oC:∀(os:List aj)(k:Nat),a_ os k=(os[k]?).getD .c
 | [],k=>by simp[a_]
 |o::os,0=>by simp[a_]
 |o::os,k+1=>by simp[a_,oC os k]
def q_:∀{p:List Nat}{i k:Nat},iy p i=some k->p[k]? =some i
 | [],_,_,h=>by simp[iy]at h
 |j::r,i,k,h=>by
  unfold iy at h;split at h
  ·rename_i hb;simp at h;subst h;simp[aV hb]
  ·cases hq:iy r i with
   |none=>simp[hq]at h
   |some k'=>simp[hq]at h;subst h;simpa using q_ hq
def aaJ:∀{p:List Nat}{i:Nat},i∈p->∃k,iy p i=some k
 | [],i,h=>by cases h
 |j::r,i,h=>by
  unfold iy;cases hb:Nat.beq i j with
  |true=>exact⟨0,rfl⟩
  |false=>
   rcases List.mem_cons.1 h with h |h
   ·subst h;rw[show Nat.beq i i=true from gq i]at hb;cases hb
   ·obtain⟨k,hk⟩:=aaJ h;exact⟨k+1,by simp[hk]⟩
def Js:∀(l seen:List Nat),∃t,gy seen l=seen++t
 | [],seen=>⟨[],by simp[gy]⟩
 |i::r,seen=>by
  unfold gy;split
  ·exact Js r seen
  ·obtain⟨t,ht⟩:=Js r (seen++ [i]);exact⟨i::t,by rw[ht];simp⟩
def Jt:∀(l seen:List Nat),seen.Nodup->(gy seen l).Nodup
 | [],seen,h=>h
 |i::r,seen,h=>by
  unfold gy;split
  ·exact Jt r seen h
  ·rename_i hc;refine Jt r _ ?_;rw[Ev];refine⟨h,aB,?_⟩;intro a ha b hb;simp at hb;subst hb;intro he;subst he;have:seen.contains a=true:=by simpa using ha
   rw[this]at hc;cases hc
def aaK:∀(l m seen:List Nat),gy seen (l++m)=gy (gy seen l) m
 | [],m,seen=>rfl
 |i::r,m,seen=>by have e1:gy seen (i::(r++m))=(match seen.contains i with |true=>gy seen (r++m) |false=>gy (seen++ [i]) (r++m)):=rfl;have e2:gy seen (i::r)=(match seen.contains i with |true=>gy seen r |false=>gy (seen++ [i]) r):=rfl;rw[u9,e1,e2];split<;>exact aaK r m _
def O4:∀(l seen:List Nat)(i:Nat),(i∈seen\/i∈l)->i∈gy seen l
 | [],seen,i,h=>by simpa[gy] using h
 |j::r,seen,i,h=>by
  unfold gy;split
  ·rename_i hc;refine O4 r seen i ?_;rcases h with h |h
   ·exact .inl h
   ·rcases List.mem_cons.1 h with rfl |h
    ·exact .inl (by simpa using hc)
    ·exact .inr h
  ·refine O4 r _ i ?_;rcases h with h |h
   ·exact .inl (by simp[h])
   ·rcases List.mem_cons.1 h with rfl |h
    ·exact .inl aB
    ·exact .inr h
def aaL:∀(l seen:List Nat),(seen++l).Nodup->gy seen l=seen++l
 | [],seen,_=>by simp[gy]
 |i::r,seen,h=>by
  unfold gy;have hc:seen.contains i=false:=by
   cases hq:seen.contains i with
   |false=>rfl
   |true=>
    have hi:i∈seen:=by simpa using hq
    rw[Ev]at h;exact absurd rfl (h.2.2 i hi i aB)
  rw[hc];simp only;rw[aaL r (seen++ [i]) (by simpa using h)];simp
def O5(h:Nat->aj):∀(n:Nat)(seen:List Nat)(k:Nat),∃t,zM h n seen k=seen++t
 |0,seen,k=>⟨[],by simp[zM]⟩
 |n+1,seen,k=>by
  unfold zM;split
  ·exact⟨[],aB⟩
  ·rename_i i hi;obtain⟨t,ht⟩:=Js (h i).zL seen;obtain⟨u,hu⟩:=O5 h n (gy seen (h i).zL) (k+1);exact⟨t++u,by rw[hu,ht,jb]⟩
def aaM(h:Nat->aj):∀(n:Nat)(seen:List Nat)(k:Nat),seen.Nodup->(zM h n seen k).Nodup
 |0,seen,k,hn=>hn
 |n+1,seen,k,hn=>by
  unfold zM;split
  ·exact hn
  ·exact aaM h n _ _ (Jt _ _ hn)
def CA(h:Nat->aj)(l:List Nat):(me h l).Nodup:=aaM h _ _ _ (Jt _ _ Ew)
def O6(h:Nat->aj)(l:List Nat)(hi:i∈l):i∈me h l:=by obtain⟨t,ht⟩:=O5 h 64 (gy [] l) 0;unfold me;rw[ht];exact M_ _ (O4 l [] i (.inr hi))
def Fx(h:Nat->aj)(m:Nat)(l:List Nat)(hi:i<m):(me h (List.range m++l))[i]? =some i:=by obtain⟨t,ht⟩:=O5 h 64 (gy [] (List.range m++l)) 0;unfold me;rw[ht,aaK,aaL (List.range m) [] (by simpa using M')];obtain⟨u,hu⟩:=Js l ([]++List.range m);rw[hu,zj,jb,lZ (by simpa using hi)];simp[hi]
section
variable{T:TypeId->bz}{G:Nat->aa}{Z Z':Nat->Prop}{h h' h'':Nat->aj}{β β' β'':Nat->bd}{w w' w'':World}{δ:Nat->Nat->Nat}{ids:List Nat}{m:Nat}
def eV(β:Nat->bd)(ids:List Nat)(k:Nat):bd:=match ids[k]? with |some i=>β i |none=>default
def jF(h:Nat->aj)(δ:Nat->Nat->Nat)(ids:List Nat):Nat->aj:=a_ (kB h δ ids)
def qe(hk:ids[k]? =some i):jF h δ ids k=(h i).vJ (gz (iy ids) (nA h δ)) (δ i):=by rw[jF,oC,kB,fX,hk];rfl
def O7(hk:ids[k]? =none):jF h δ ids k=.c:=by rw[jF,oC,kB,fX,hk];rfl
def re(hk:ids[k]? =some i):eV β ids k=β i:=by rw[eV,hk]
def Ju(o:aj)(φ:aa->aa)(g:Nat->Nat):(o.vJ φ g).I=o.I:=by cases o<;>rfl
def aaN(o:aj)(φ:aa->aa)(g:Nat->Nat):(o.vJ φ g).D=o.D:=by cases o<;>rfl
def nE(hm:cQ (jF h δ ids) (eV β ids) k):∃i,ids[k]? =some i/\cQ h β i/\(eV β ids k).a=(β i).a:=by
 cases hk:ids[k]? with
 |none=>obtain⟨h1,_⟩:=hm;rw[O7 hk]at h1;cases h1
 |some i=>obtain⟨h1,h2⟩:=hm;rw[qe hk,Ju]at h1;rw[re hk]at h2⊢;exact⟨i,rfl,⟨h1,h2⟩,rfl⟩
def bW.I{r:aa}{y:Value}(hr:bW T h β r y):ax T w O (gz (iy ids) (nA h δ) r) (bW T (jF h δ ids) (eV β ids)) y:=by
 cases r with
 |e i j=>
  obtain⟨⟨ro,cs,e⟩,hy⟩:=hr;cases hp:iy ids i with
  |none=>simp only[gz,hp];exact trivial
  |some k=>have hk:=q_ hp;simp only[gz,hp];exact⟨⟨ro,_,by rw[qe hk,e];rfl⟩,by rw[re hk];exact hy⟩
 |y t i g n=>
  obtain⟨ro,g',t',vs,e,hg,lz,hx⟩:=hr;cases hp:iy ids i with
  |none=>simp only[gz,hp];exact trivial
  |some k=>
   have hk:=q_ hp;cases hb:Nat.beq g g' with
   |false=>simp only[gz,hp,nA,e,hb];exact trivial
   |true=>simp only[gz,hp,nA,e,hb];exact⟨ro,δ i g',t',vs,by rw[qe hk,e];rfl,bj _,lz,λ_=>by rw[re hk];exact hx (aV hb)⟩
 |K t i g o n=>
  obtain⟨ro,g',t',vs,e,hg,lz,hx⟩:=hr;cases hp:iy ids i with
  |none=>simp only[gz,hp];exact trivial
  |some k=>
   have hk:=q_ hp;cases hb:Nat.beq g g' with
   |false=>simp only[gz,hp,nA,e,hb];exact trivial
   |true=>simp only[gz,hp,nA,e,hb];exact⟨ro,δ i g',t',vs,by rw[qe hk,e];rfl,bj _,lz,λ_=>by rw[re hk];exact hx (aV hb)⟩
 |H i g a j=>
  obtain⟨ro,g',t',vs,e,hg,lz,hx⟩:=hr;cases hp:iy ids i with
  |none=>simp only[gz,hp];exact trivial
  |some k=>
   have hk:=q_ hp;cases hb:Nat.beq g g' with
   |false=>simp only[gz,hp,nA,e,hb];exact trivial
   |true=>simp only[gz,hp,nA,e,hb];exact⟨ro,δ i g',t',vs,by rw[qe hk,e];rfl,bj _,lz,λ_=>by rw[re hk];exact hx (aV hb)⟩
 |F i=>
  obtain⟨⟨ro,t,ks,vs,e⟩,hy⟩:=hr;cases hp:iy ids i with
  |none=>simp only[gz,hp];exact trivial
  |some k=>have hk:=q_ hp;simp only[gz,hp];exact⟨⟨ro,_,_,_,by rw[qe hk,e];rfl⟩,by rw[re hk];exact hy⟩
 |L i=>
  obtain⟨⟨ro,s,k0,e⟩,hy⟩:=hr;cases hp:iy ids i with
  |none=>simp only[gz,hp];exact trivial
  |some k=>have hk:=q_ hp;simp only[gz,hp];exact⟨⟨ro,_,_,by rw[qe hk,e];rfl⟩,by rw[re hk];exact hy⟩
 |G t i n=>
  obtain⟨⟨ro,cs,e⟩,hy⟩:=hr;cases hp:iy ids i with
  |none=>simp only[gz,hp];exact trivial
  |some k=>have hk:=q_ hp;simp only[gz,hp];exact⟨⟨ro,_,by rw[qe hk,e];rfl⟩,by rw[re hk];exact hy⟩
 |_=>exact hr.elim
def cz.D(hO:∀b,O' b->O b):cz w w O O':=⟨bj _,λ_ _ _=>rfl,λb _ h h'=>h (hO b h')⟩
def ax.O8{x:Value}(hO:∀b,O' b->O b)(hr:ax T w O v (bW T h β) x):ax T w O' (se h δ ids v) (bW T (jF h δ ids) (eV β ids)) x:=by unfold se;rw[aa.Cl];exact ax.Fj v _ _ x (λ_ _ h=>h.I) (ax.D (cz.D hO) v _ _ x (λ_ _ h=>h) hr)
def gM.ams{o:aj}(hO:∀b,O' b->O b)(g:Nat->Nat)(hr:gM T w O (bW T h β) l o):gM T w O' (bW T (jF h δ ids) (eV β ids)) l (o.vJ (gz (iy ids) (nA h δ)) g):=by
 have hr:=hr.I (w':=w) (O':=O') (R':=bW T h β) (cz.D hO) (λ_ _ h=>h) (λ_=>rfl);cases o with
 |c=>trivial
 |a ro cs=>obtain⟨hn,arr,e,h1,h2⟩:=hr;exact⟨hn,arr,e,h1,by rw[aa.zK,Oy];exact aF.zT cs _ _ _ (λ_ _ h=>bW.I h) h2⟩
 |b ro g t vs=>exact hr
 |d ro t ks vs=>exact hr
 |f ro s k=>exact hr
def su(hZ:∀b,Z' b->aY Z h β b)(b:Nat)(ho:aY Z' (jF h δ ids) (eV β ids) b):aY Z h β b:=by
 rcases ho with hz | ⟨k,hk,e⟩
 ·exact hZ b hz
 ·obtain⟨i,_,hi,he⟩:=nE hk;exact .inr ⟨i,hi,he.symm.trans e⟩
def cY.U(cx:cY T G Z h β w)(cP:ids.Nodup)(hZ:∀b,Z' b->aY Z h β b)(aKn:∀b,Z' b->b<w.heap.size)(aKo:∀i∈ids,cQ h β i->¬Z' (β i).a):cY T G Z' (jF h δ ids) (eV β ids) w := {
 c:=λk=>by
  cases hk:ids[k]? with
  |none=>rw[O7 hk];trivial
  |some i=>rw[qe hk,re hk];exact(cx.c i).ams (su hZ) _
 p:=λk ha hr hn ho=>by
  cases hk:ids[k]? with
  |none=>rw[O7 hk]at ha;cases ha
  |some i=>rw[qe hk,aaN]at ha;rw[qe hk,Ju]at hr;rw[re hk]at hn ho;exact cx.p i ha hr hn (su hZ _ ho)
 d:=λa b vi ha hb=>by obtain⟨i,hi,mi,ei⟩:=nE ha;obtain⟨j,hj,mj,ej⟩:=nE hb;rw[ei,ej];refine cx.d i j (λe=>vi ?_) mi mj;subst e;obtain⟨h1,h2⟩:=List.getElem?_eq_some_iff.1 hi;obtain⟨h3,h4⟩:=List.getElem?_eq_some_iff.1 hj;exact(Na cP).1 (h2.trans h4.symm)
 m:=aKn
 f:=λk hk hz=>by obtain⟨i,hi,mi,ei⟩:=nE hk;rw[ei]at hz;exact aKo i (eg hi) mi hz
 n:=λg=>dU.D (cz.D (su hZ)) (cx.n g) }
structure dZ(m:Nat)(h:Nat->aj)(β:Nat->bd)(w:World)(h':Nat->aj)(β':Nat->bd)(w':World):Prop where
 f:w'.os=w.os
 n:w'.tape=w.tape
 p:w'.output=w.output
 c:w.heap.size<=w'.heap.size
 d:∀b,b<w.heap.size->(∀i,cQ h β i->(β i).a≠b)->w'.heap[b]? =w.heap[b]?
 r:∀i,cQ h' β' i->(∃k,cQ h β k/\(β k).a=(β' i).a)\/w.heap.size<=(β' i).a
 u:∀i,i<m->iz (h i) (β i) (h' i) (β' i)
def dF.U(s:dF h β w h' β' w'):dZ m h β w h' β' w':=⟨s.g,s.l,s.n,s.d,s.f,s.c,λi _=>s.o i⟩
def dZ.D:dZ m h β w h β w:=dF.D.U
def dZ.Jv(a:dZ m h β w h' β' w')(b:dZ m h' β' w' h'' β'' w''):dZ m h β w h'' β'' w'' := {
 f:=b.f.trans a.f
 n:=b.n.trans a.n
 p:=b.p.trans a.p
 c:=eb a.c b.c
 d:=λk hk hn=>(b.d k (dJ hk a.c) (λi hi he=>by
  rcases a.r i hi with⟨j,hj,e⟩ |e
  ·exact hn j hj (e.trans he)
  ·omega)).trans (a.d k hk hn)
 r:=λi hi=>by
  rcases b.r i hi with⟨j,hj,e⟩ |e
  ·rcases a.r j hj with⟨k,hk,e'⟩ |e'
   ·exact .inl ⟨k,hk,e'.trans e⟩
   ·exact .inr (by rw[<-e];exact e')
  ·exact .inr (eb a.c e)
 u:=λi hi=>(a.u i hi).I (b.u i hi) }
def xV(h:Nat->aj):Prop:=∀i ro g t vs,h i=.b ro g t vs->g=0
def dZ.V(a:dZ m h β w h' β' w')(hn:xV h)(ajF:∀i,i<m->ids[i]? =some i)(hδ:∀i g,i<m->δ i g=0->g=0):dZ m h β w (jF h' δ ids) (eV β' ids) w' := {
 f:=a.f
 n:=a.n
 p:=a.p
 c:=a.c
 d:=a.d
 r:=λk hk=>by obtain⟨i,hi,mi,ei⟩:=nE hk;rw[ei];exact a.r i mi
 u:=λi hi=>by
  rw[qe (ajF i hi),re (ajF i hi)];have h1:=a.u i hi;cases hq:h i with
  |c=>trivial
  |a ro cs=>rw[hq]at h1;obtain⟨⟨ro',cs',e⟩,h2⟩:=h1;rw[e];exact⟨⟨_,_,rfl⟩,h2⟩
  |b ro g t vs=>rw[hq]at h1;obtain⟨ro',g',t',vs',e,hg,h2⟩:=h1;have EP:=hn i ro g t vs hq;subst EP;rw[e];exact⟨_,_,_,_,rfl,ik _,λh3=>h2 (hδ i g' hi h3.symm).symm⟩
  |d ro t ks vs=>rw[hq]at h1;obtain⟨⟨ro',t',ks',vs',e⟩,h2⟩:=h1;rw[e];exact⟨⟨_,_,_,_,rfl⟩,h2⟩
  |f ro s k=>rw[hq]at h1;obtain⟨⟨ro',s',k',e⟩,h2⟩:=h1;rw[e];exact⟨⟨_,_,_,rfl⟩,h2⟩ }
end
section
variable{P:Program}{T:TypeId->bz}{G:Nat->aa}{Z Z':Nat->Prop}{h view h':Nat->aj}{β β':Nat->bd}{w w':World}{O O':Nat->Prop}{R R':aa->Value->Prop}
def bN.aaO(hO:∀b,O' b->O b){t o:Nat}(hr:bN T w O vs t b o):bN T w O' vs t b o:=bN.D (cz.D hO) vs t b o rfl hr
def aF.O9{f:aa->aa}:∀{vs:List aa}{l:List Value},aF T w O vs R l->(∀v∈vs,∀x,ax T w O v R x->ax T w O' (f v) R' x)->aF T w O' (vs.map f) R' l
 | [],_,h,_=>h
 |v::vs,_,⟨x,r,e,h1,h2⟩,hf=>⟨x,r,e,hf v aB x h1,aF.O9 h2 (λu hu=>hf u (by simp[hu]))⟩
def O_:∀{vs:List aa}{v:aa}{i:Nat},v∈vs->i∈v.dP->i∈aa.jD vs
 |u::vs,v,i,hv,hi=>by
  rw[aa.jD,xh];rcases List.mem_cons.1 hv with rfl |hv
  ·exact .inl hi
  ·exact .inr (O_ hv hi)
def amt(k:bY)(cs:List aa):dX k (.u cs)=false:=by cases k<;>rfl
def amu(hf:cA ty (mL ty.b L)=true)(hl:ty.b=false->L.length=1):(mL ty.b L).V=L:=by
 cases ha:ty.b with
 |true=>rfl
 |false=>
  have h1:=hl ha;rw[ha]at hf;match L,h1 with
  | [v],_=>
   show aa.V v=[v];have hf':cA ty v=true:=hf;unfold cA at hf';rw[ha]at hf';simp only at hf';split at hf'
   ·cases v with
    |u cs=>rw[amt]at hf';simp at hf'
    |_=>rfl
   ·simp at hf'
def aaP{t:TypeId}(row:dn P t (T t)){b:Nat}:∀(m:Nat)(cs:List aa)(l:List Value)(o:Nat),aF T w O cs bh l->dH w b o l->cs.length=m*(T t).a->(vK (T t) m cs).all (cA (T t))=true->bN T w O ((vK (T t) m cs).map (dm (T t))) t b o
 |0,_,_,_,_,_,_,_=>trivial
 |m+1,cs,l,o,hr,hl,hn,hf=>by
  rw[vK,ja,au]at hf;rw[vK,lX];have hlen:=hr.I;have bE:(T t).a<=cs.length:=by rw[hn,tu];omega
  have xw:(T t).b=false->(cs.take (T t).a).length=1:=λha=>by have:=(row.V ha).1;rw[pM,this];omega
  have hc:=amu hf.1 xw;obtain⟨g1,g2⟩:=OI row (v:=mL (T t).b (cs.take (T t).a)) (R:=bh) (cs:=l.take (T t).a) hf.1 (by rw[hc];exact hr.so _);have vk:cA (T t) (dm (T t) (mL (T t).b (cs.take (T t).a)))=true:=Jj hf.1;refine⟨⟨vk,Jc _ _⟩,⟨l.take (T t).a,g2,hl.I _,g1.Fk hf.1⟩,?_⟩;exact aaP row m (cs.drop (T t).a) (l.drop (T t).a) (o+(T t).a) (hr.V _) (hl.D _) (by rw[tA,hn,tu];omega) hf.2
def Pa(ty:bz):∀(m:Nat)(cs:List aa),(vK ty m cs).length=m
 |0,_=>rfl
 |m+1,cs=>by rw[vK,eM,Pa]
def CB(hT:cH P T)(cx:cY T G Z h β w)(hv:pt view h)(hO:∀b,O' b->aY Z h β b){S:List Nat}(hS:∀i∈S,∀j∈(view i).zL,j∈S)(o_:∀i∈S,(h i).D=true->(β i).d=false->¬O' (β i).a):
  ∀(n:Nat)(v:aa)(x:Value)(R:aa->Value->Prop),(∀i∈v.dP,i∈S)->ax T w (aY Z h β) v (bW T h β) x->ax T w O' (tX T view n v) R x
 |0,_,_,_,_,_=>trivial
 |n+1,v,x,R,H7,hr=>by
  rw[tX,aa.Cl];have h1:=ax.I v _ (λr y=>bW T h β r y/\∀i∈r.dP,i∈S) x (λr y hi h=>⟨h,λi xx=>H7 i (hi i xx)⟩) hr;refine ax.Fj v _ _ x (λr y hy=> ?_) (ax.D (cz.D hO) v _ _ x (λ_ _ h=>h) h1);obtain⟨hy,tK⟩:=hy;cases r with
  |y t i g m=>
   have qV:=tK i (by simp[aa.dP]);obtain⟨ro,g',t',vs,e,hg,lz,hx⟩:=hy;simp only;cases hq:view i with
   |b ro2 g2 t2 vs2=>
    have cX:=hv.D hq aB;rw[e]at cX;simp only[aj.b.injEq]at cX;obtain⟨rfl,rfl,rfl,rfl⟩:=cX;simp only;cases hb:Nat.beq g g' with
    |false=>exact trivial
    |true=>
     obtain⟨rfl,rfl,rfl⟩:=hx (aV hb);have dd:=cx.c i;rw[e]at dd;obtain⟨_,⟨h2,rfl,h3⟩ | ⟨h2,cur,h3,h4,_,_,h5⟩⟩:=dd
     ·exact⟨_,_,rfl,aB,.inl rfl⟩
     ·exact⟨_,_,rfl,h4,.inr ⟨(β i).a,(β i).c,by simp[bd.D,h2],(Array.getElem?_eq_some_iff.1 h3).1,o_ i qV (by rw[e];rfl) h2,h5.aaO hO⟩⟩
   |_=>exact trivial
  |K t i g o m=>
   have qV:=tK i (by simp[aa.dP]);obtain⟨ro,g',t',vs,e,hg,lz,hx⟩:=hy;simp only;cases hq:view i with
   |b ro2 g2 t2 vs2=>
    have cX:=hv.D hq aB;rw[e]at cX;simp only[aj.b.injEq]at cX;obtain⟨rfl,rfl,rfl,rfl⟩:=cX;simp only;cases hb:Nat.beq g g' with
    |false=>exact trivial
    |true=>
     obtain⟨rfl,xq,ad,rfl,cL⟩:=hx (aV hb);have dd:=cx.c i;rw[e]at dd;have hlen:((vs.drop o).take m).length=m:=by simp;omega
     obtain⟨_,⟨h2,rfl,h3⟩ | ⟨h2,cur,h3,h4,_,_,h5⟩⟩:=dd
     ·simp at xq;obtain⟨_,rfl⟩:=xq;exact⟨_,_,rfl,aB,.inl aB⟩
     ·refine⟨ad,(β i).b-o,by rw[hlen],by rw[hlen];omega,?_⟩;by_cases hm:m=0
      ·subst hm;exact .inl aB
      ·refine .inr ⟨(β i).a,(β i).c+o*(T t').a,cL ab,(Array.getElem?_eq_some_iff.1 h3).1,o_ i qV (by rw[e];rfl) h2,?_⟩;exact(bN.I vs o m h5).aaO hO
   |_=>exact trivial
  |H i g k j=>
   have qV:=tK i (by simp[aa.dP]);obtain⟨ro,g',t',vs,e,hg,lz,hx⟩:=hy;simp only;cases hq:view i with
   |b ro2 g2 t2 vs2=>
    have cX:=hv.D hq aB;rw[e]at cX;simp only[aj.b.injEq]at cX;obtain⟨rfl,rfl,rfl,rfl⟩:=cX;simp only;cases hb:Nat.beq g g' with
    |false=>exact trivial
    |true=>
     obtain⟨hk,rfl⟩:=hx (aV hb);have dd:=cx.c i;rw[e]at dd;obtain⟨ht,⟨h2,rfl,h3⟩ | ⟨h2,cur,h3,h4,_,_,h5⟩⟩:=dd
     ·simp at hk
     ·have j2:vs[k]? =some vs[k]:=cV hk;obtain⟨f1,f2,cs',h6,h7,h8⟩:=bN.U h5 j2;have om:vs.getD k .m=vs[k]:=by rw[dD,j2];rfl
      rw[om,f2];refine⟨(β i).a,(β i).c+(k*(T t').a+j),cs'.drop j,rfl,(Array.getElem?_eq_some_iff.1 h3).1,o_ i qV (by rw[e];rfl) h2,?_,?_⟩
      ·have:=h7.D j;rwa[qI]at this
      ·exact(aF.D (cz.D hO) _ _ _ _ (λ_ _ h=>h) (Cw (hT.D ht) f1 h6 h8)).V j
   |_=>exact trivial
  |e i j=>
   have qV:=tK i (by simp[aa.dP]);obtain⟨⟨ro,cs,e⟩,rfl⟩:=hy;simp only;cases hq:view i with
   |a ro2 cs2=>
    have cX:=hv.D hq aB;rw[e]at cX;simp only[aj.a.injEq]at cX;obtain⟨rfl,rfl⟩:=cX;have dd:=cx.c i;rw[e]at dd;obtain⟨h2,arr,ee,h3,h4⟩:=dd;have mF:=hS i qV;rw[hq]at mF;refine⟨(β i).a,j,(arr.toList.take cs.length).drop j,rfl,(Array.getElem?_eq_some_iff.1 h3).1,o_ i qV (by rw[e];rfl) h2,?_,?_⟩
    ·have:=((dH.U h3).I cs.length).D j;rwa[gF]at this
    ·refine aF.O9 (R:=bW T h β) (h4.V j) (λv Yh x hx=> ?_);exact CB hT cx hv hO hS o_ n v x bh (λa ha=>mF a (by show a∈aa.vI cs;rw[aa.tW];exact O_ (List.mem_of_mem_drop Yh) ha)) hx
   |_=>exact trivial
  |F i=>
   have qV:=tK i (by simp[aa.dP]);obtain⟨⟨ro,t,ks,vs,e⟩,rfl⟩:=hy;simp only;cases hq:view i with
   |d ro2 t2 ks2 vs2=>have cX:=hv.D hq aB;rw[e]at cX;simp only[aj.d.injEq]at cX;obtain⟨rfl,rfl,rfl,rfl⟩:=cX;have dd:=cx.c i;rw[e]at dd;obtain⟨h2,hd,es,clk,h3,h4,h5⟩:=dd;exact⟨(β i).a,es,clk,rfl,(Array.getElem?_eq_some_iff.1 h3).1,o_ i qV (by rw[e];rfl) h2,h3,hd,aF.D (cz.D hO) _ _ _ _ (λ_ _ h=>h) h4,aF.D (cz.D hO) _ _ _ _ (λ_ _ h=>h) h5⟩
   |_=>exact trivial
  |L i=>exact trivial
  |G t i m=>
   have qV:=tK i (by simp[aa.dP]);obtain⟨⟨ro,cs,e⟩,cap,fQ,rfl⟩:=hy;simp only;cases hq:view i with
   |a ro2 cs2=>
    have cX:=hv.D hq aB;rw[e]at cX;simp only[aj.a.injEq]at cX;obtain⟨rfl,rfl⟩:=cX;have dd:=cx.c i;rw[e]at dd;obtain⟨h2,arr,ee,h3,h4⟩:=dd;have mF:=hS i qV;rw[hq]at mF;have h5:aF T w O' (cs.map (tX T view n)) bh (arr.toList.take cs.length):=aF.O9 (R:=bW T h β) h4 (λv Yh x hx=>CB hT cx hv hO hS o_ n v x bh (λa ha=>mF a (by show a∈aa.vI cs;rw[aa.tW];exact O_ Yh ha)) hx);simp only[ZJ];split
    ·rename_i hc;simp only[au]at hc;have h6:=aaP (hT.D hc.1.1) (O:=O') m _ _ 0 h5 ((dH.U h3).I _) (aV hc.1.2) hc.2;exact⟨_,cap,by rw[gR,Pa],by rw[gR,Pa];exact fQ,.inr ⟨(β i).a,0,rfl,(Array.getElem?_eq_some_iff.1 h3).1,o_ i qV (by rw[e];rfl) h2,h6⟩⟩
    ·exact trivial
   |_=>exact trivial
  |_=>exact hy.elim
end
def Jw{α:Type}:∀(a b:List (Nat×α))(f:Nat->α),bU f (a++b)=bU (bU f a) b
 | [],_,_=>rfl
 | (i,x)::a,b,f=>Jw a b (bO f i x)
def sw{α:Type}:∀(l:List (Nat×α))(f:Nat->α)(i:Nat),(∀p∈l,p.1≠i)->bU f l i=f i
 | [],_,_,_=>rfl
 | (j,x)::l,f,i,h=>by rw[bU,sw l _ i (λp hp=>h p (by simp[hp])),fj];exact lY (h (j,x) aB)
def aaQ{α:Type}:∀(l:List (Nat×α))(f:Nat->α)(n i:Nat)(x:α),l[n]? =some (i,x)->(∀m y,l[m]? =some (i,y)->m=n)->bU f l i=x
 | [],_,_,_,_,h,_=>by simp at h
 | (j,y)::l,f,0,i,x,h,hu=>by simp at h;obtain⟨rfl,rfl⟩:=h;rw[bU,sw,dt];intro p hp he;obtain⟨m,hm⟩:=M1 hp;obtain⟨p1,p2⟩:=p;simp only at he;subst he;have:=hu (m+1) p2 (by simpa using hm);omega
 | (j,y)::l,f,n+1,i,x,h,hu=>by rw[bU];exact aaQ l _ n i x (by simpa using h) (λm z hm=>by have:=hu (m+1) z (by simpa using hm);omega)
def Jy{α:Type}(F:Nat->α):∀(l:List Nat)(f:Nat->α)(i:Nat),bU f (l.map λi=>(i,F i)) i=if i∈l then F i else f i
 | [],_,_=>by simp[bU]
 |j::l,f,i=>by
  rw[lX,bU,Jy F l];by_cases hi:i∈l
  ·simp[hi]
  ·by_cases hj:i=j
   ·subst hj;simp[hi,dt]
   ·simp[hi,hj,fj]
section
variable{T:TypeId->bz}{w w':World}{O O':Nat->Prop}{R R':aa->Value->Prop}
def aaR{k:bY}(hp:k.D=true)(hf:dX k v=true):v.lE=true:=by cases k<;>simp[bY.D]at hp<;>cases v<;>simp[dX]at hf<;>rfl
def aaS:∀{ks:List bY}{cs:List aa},ks.all bY.D=true->bT ks cs=true->aa.sd cs=true
 | [],[],_,_=>rfl
 | [],_::_,_,h=>by simp[bT]at h
 |_::_,[],_,h=>by simp[bT]at h
 |k::ks,c::cs,hp,h=>by rw[bT,au]at h;rw[ja,au]at hp;rw[aa.sd,aaR hp.1 h.1,aaS hp.2 h.2];rfl
def Pb(hp:ty.d.all bY.D=true)(hf:cA ty v=true):v.lE=true:=by
 obtain⟨size,agg,bytes,kinds,d,eq⟩:=ty;cases agg with
 |true=>cases v<;>simp[cA]at hf;rw[aa.lE,aaS hp hf]
 |false=>
  match kinds,hp,hf with
  | [k],hp,hf=>exact aaR (by simpa using hp) hf
  | [],_,hf=>simp[cA]at hf
  |_::_::_,_,hf=>simp[cA]at hf
def bN.aaT{t:TypeId}{b:Nat}(hp:(T t).d.all bY.D=true):∀{vs:List aa}{o:Nat},bN T w O vs t b o->bN T w O' vs t b o
 | [],_,_=>trivial
 |v::vs,o,⟨h1,⟨cs,h2,h3,h4⟩,h5⟩=>⟨h1,⟨cs,h2,h3,ax.V v _ _ (Pb hp h1.1) h4⟩,bN.aaT hp h5⟩
def aF.Pc:∀{vs:List aa}{l:List Value},(∀v∈vs,v.lE=true)->aF T w O vs R l->aF T w O' vs R l
 | [],_,_,h=>h
 |v::vs,_,hf,⟨x,r,e,h1,h2⟩=>⟨x,r,e,ax.V v _ _ (hf v aB) h1,aF.Pc (λu hu=>hf u (by simp[hu])) h2⟩
def gM.amv{o:aj}(hf:o.I0 T=true)(hr:gM T w O R l o):gM T w O' R l o:=by
 cases o with
 |c=>trivial
 |a ro cs=>obtain⟨hn,arr,e,h1,h2⟩:=hr;exact⟨hn,arr,e,h1,aF.Cs cs _ _ ((aa.Cm cs).symm.trans hf) h2⟩
 |b ro g t vs=>
  obtain⟨ht,h | ⟨hn,cur,h1,h2,h3,h4,h5⟩⟩:=hr
  ·exact⟨ht,.inl h⟩
  ·exact⟨ht,.inr ⟨hn,cur,h1,h2,h3,h4,h5.aaT hf⟩⟩
 |d ro t ks vs=>
  obtain⟨hn,hd,es,clk,h1,h2,h3⟩:=hr;simp only[aj.I0]at hf;split at hf
  ·rename_i k e aKp;rw[au]at hf;obtain⟨d1,d2⟩:=hd k e aKp;exact⟨hn,hd,es,clk,h1,h2.Pc (λv hv=>Pb hf.1 (d1 v hv)),h3.Pc (λv hv=>Pb hf.2 (d2 v hv).1)⟩
  ·cases hf
 |f ro s k=>exact hr
def gM.amw{o:aj}(g:Nat->Nat)(hR:∀r y,R r y->ax T w O (φ r) R' y)(hr:gM T w O R l o):gM T w O R' l (o.vJ φ g):=by
 cases o with
 |c=>trivial
 |a ro cs=>obtain⟨hn,arr,e,h1,h2⟩:=hr;exact⟨hn,arr,e,h1,by rw[aa.zK,Oy];exact aF.zT cs _ _ _ hR h2⟩
 |b ro g t vs=>exact hr
 |d ro t ks vs=>exact hr
 |f ro s k=>exact hr
def gM.U{o:aj}(hr:gM T w O R l o):gM T w O R l o.U:=by cases o<;>exact hr
end
structure Pd(T:TypeId->bz)(G:Nat->aa)(Z:Nat->Prop)(m:Nat)(h:Nat->aj)(β:Nat->bd)(w:World)(v:aa)(ao:List aj)(β':Nat->bd)(w':World)(x:Value):Prop where
 c:cY T G Z (a_ ao) β' w'
 a:dZ m h β w (a_ ao) β' w'
 b:ax T w' (aY Z (a_ ao) β') v (bW T (a_ ao) β') x
section
variable{T:TypeId->bz}{G:Nat->aa}{Z:Nat->Prop}{h view:Nat->aj}{β:Nat->bd}{w:World}{ids bor:List Nat}{fr:Nat}
def xW(hk:ids[k]? =some i):j9 ids fr k=i:=by rw[j9,hk]
def z6(hk:ids.length<=k):j9 ids fr k=fr+(k-ids.length):=by rw[j9,kY hk]
def Jz:∀(ao:List aj)(k n:Nat)(o:aj),ao[n]? =some o->(zP view ids fr k ao)[n]? =some (j9 ids fr (k+n),o.vJ (gz (λi=>some (j9 ids fr i)) (λi g=>some (g+p_ view ids i))) (· +p_ view ids (k+n)))
 | [],_,_,_,h=>by simp at h
 |o::r,k,0,_,h=>by simp at h;subst h;rfl
 |o::r,k,n+1,o',h=>by rw[zP,El,Jz r (k+1) n o' (by simpa using h)];rw[show k+1+n=k+(n+1)from ab]
def Pe:∀(ao:List aj)(k:Nat),(zP view ids fr k ao).length=ao.length
 | [],_=>rfl
 |o::r,k=>by rw[zP,eM,Pe r,eM]
def lH(β β':Nat->bd)(ids:List Nat)(fr:Nat)(i:Nat):bd:=match iy ids i with
 |some k=>β' k
 |none=>if fr<=i/\i<fr+64 then β' (ids.length+(i-fr))else β i
def rf(T:TypeId->bz)(v:aa)(ao:List aj):Bool:=v.lE &&ao.all (λo=>o.I0 T && (o.I || !o.D))
def xX(Z:Nat->Prop)(h:Nat->aj)(β:Nat->bd)(ids bor:List Nat)(b:Nat):Prop:=Z b\/∃i,cQ h β i/\i∉ids/\i∉bor/\(β i).a=b
def aaU(cx:cY T G Z h β w)(hv:pt view h)(cP:ids.Nodup)(lC:xN view ids bor=true)(de:∀i,fr<=i->i<fr+64->h i=.c)
 {ao:List aj}{x:Value}(hlen:ids.length<=ao.length)(X8:ao.length<=ids.length+64)
  (gd:Pd T G (xX Z h β ids bor) ids.length (jF h pZ ids) (eV β ids) w v ao β' w' x):
  cY T G Z (bU h (q7 T view ids bor fr v ao)) (lH β β' ids fr) w'/\dF h β w (bU h (q7 T view ids bor fr v ao)) (lH β β' ids fr) w'/\
  ax T w' (aY Z (bU h (q7 T view ids bor fr v ao)) (lH β β' ids fr)) (I3 view ids fr v) (bW T (bU h (q7 T view ids bor fr v ao)) (lH β β' ids fr)) x/\
  sr h (bU h (q7 T view ids bor fr v ao)) fr:=by
 obtain⟨H,hH⟩:∃H,H=bU h (q7 T view ids bor fr v ao):=⟨_,rfl⟩
 rw[<-hH];unfold xN at lC;rw[au,dS,dS]at lC;obtain⟨vl,BR⟩:=lC;have zB:∀i∈ids,view i=h i/\(h i).D=true:=λi hi=>by
  have h1:=vl i hi;rcases hv i with h2 |h2
  ·rw[h2]at h1;cases h1
  ·exact⟨h2,by rw[<-h2];exact h1⟩
 have H8:∀i∈bor,view i=h i/\(h i).D=true/\i∉ids:=λi hi=>by
  have h1:=BR i hi;simp only[au,kr]at h1;rcases hv i with h2 |h2
  ·rw[h2]at h1;cases h1.1.1
  ·exact⟨h2,by rw[<-h2];exact h1.1.1,by simpa using h1.1.2⟩
 have cM:∀i,(h i).D=true->¬(fr<=i/\i<fr+64):=λi ha hc=>by rw[de i hc.1 hc.2]at ha;cases ha
 have NB:∀a b,a<ao.length->b<ao.length->j9 ids fr a=j9 ids fr b->a=b:=by
  intro a b ha hb he;rcases od a ids.length with h1 |h1<;>rcases od b ids.length with h2 |h2
  ·rw[xW (cV h1),xW (cV h2)]at he;exact(Na cP).1 he
  ·rw[xW (cV h1),z6 h2]at he;exact absurd ⟨ab,ab⟩ (cM ids[a] (zB _ (mE h1)).2)
  ·rw[z6 h1,xW (cV h2)]at he;exact absurd ⟨ab,ab⟩ (cM ids[b] (zB _ (mE h2)).2)
  ·rw[z6 h1,z6 h2]at he;omega
 have hA:∀k o,ao[k]? =some o->H (j9 ids fr k)=o.vJ (gz (λi=>some (j9 ids fr i)) (λi g=>some (g+p_ view ids i))) (· +p_ view ids k):=by
  intro k o hk;rw[hH,q7,Jw];have h1:=Jz (view:=view) (ids:=ids) (fr:=fr) ao 0 k o hk;rw[gF]at h1;refine aaQ _ _ k _ _ h1 (λm y hm=> ?_);have H9:m<ao.length:=by rw[<-Pe (view:=view) (ids:=ids) (fr:=fr) ao 0];exact(List.getElem?_eq_some_iff.1 hm).1
  have h2:=Jz (view:=view) (ids:=ids) (fr:=fr) ao 0 m _ (cV H9);rw[hm,gF]at h2;simp only[Option.some.injEq,Prod.mk.injEq]at h2;exact NB m k H9 (List.getElem?_eq_some_iff.1 hk).1 h2.1.symm
 have hB:∀i,(∀k,k<ao.length->j9 ids fr k≠i)->H i=h i/\(rf T v ao=true\/i∉bor)\/i∈bor/\rf T v ao=false/\H i=(h i).U:=by
  intro i hi;have h1:∀f:Nat->aj,bU f (zP view ids fr 0 ao) i=f i:=λf=>by
   refine sw _ _ _ (λp hp he=> ?_);obtain⟨m,hm⟩:=M1 hp;have H9:m<ao.length:=by rw[<-Pe (view:=view) (ids:=ids) (fr:=fr) ao 0];exact(List.getElem?_eq_some_iff.1 hm).1
   have h2:=Jz (view:=view) (ids:=ids) (fr:=fr) ao 0 m _ (cV H9);rw[hm,gF]at h2;simp only[Option.some.injEq]at h2;rw[h2]at he;exact hi m H9 he
  rw[hH,q7,Jw,h1];rw[show Oo T view bor v ao=(match rf T v ao with |true=> [] |false=>bor.map λi=>(i,(view i).U))from by unfold Oo rf;rw[aa.Oj];rfl];cases hl:rf T v ao with
  |true=>exact .inl ⟨rfl,.inl rfl⟩
  |false=>
   simp only;rw[Jy (λi=>(view i).U)];by_cases cX:i∈bor
   ·rw[if_pos cX,(H8 i cX).1];exact .inr ⟨cX,trivial,rfl⟩
   ·rw[if_neg cX];exact .inl ⟨rfl,.inr cX⟩
 have rV:∀k,k<ao.length->lH β β' ids fr (j9 ids fr k)=β' k:=by
  intro k hk;unfold lH;rcases od k ids.length with h1 |h1
  ·have h2:=cV h1;rw[xW h2];obtain⟨k',hk'⟩:=aaJ (mE h1);rw[hk'];have h3:=q_ hk';obtain⟨h4,h5⟩:=List.getElem?_eq_some_iff.1 h3;rw[(Na cP).1 h5]
  ·rw[z6 h1];cases hp:iy ids (fr+(k-ids.length))with
   |some k'=>have h3:=eg (q_ hp);exact absurd ⟨ab,ab⟩ (cM _ (zB _ h3).2)
   |none=>
    simp only;rw[if_pos ab];congr 1
    omega
 have H_:∀i,(∀k,k<ao.length->j9 ids fr k≠i)->(h i).D=true->lH β β' ids fr i=β i/\i∉ids:=by
  intro i hi ha;have zC:i∉ids:=λhm=>by obtain⟨n,hn,rfl⟩:=M8 hm;exact hi n ab (xW (cV hn))
  refine⟨?_,zC⟩;unfold lH;cases hp:iy ids i with
  |some k=>exact absurd (eg (q_ hp)) zC
  |none=>simp only;rw[if_neg (cM i ha)]
 have vp:∀i,(∃k o,ao[k]? =some o/\j9 ids fr k=i)\/(∀k,k<ao.length->j9 ids fr k≠i):=λi=>by
  by_cases hc:∃k,k<ao.length/\j9 ids fr k=i
  ·obtain⟨k,hk,he⟩:=hc;exact .inl ⟨k,_,cV hk,he⟩
  ·exact .inr (λk hk he=>hc ⟨k,hk,he⟩)
 have dd:∀{k o},ao[k]? =some o->a_ ao k=o:=λhk=>by rw[oC,hk];rfl
 have hro_rw:∀o:aj,o.U.I=false:=λo=>by cases o<;>rfl
 have hro_alive:∀o:aj,o.U.D=o.D:=λo=>by cases o<;>rfl
 have iu:∀i,cQ H (lH β β' ids fr) i->(∃k,k<ao.length/\j9 ids fr k=i/\cQ (a_ ao) β' k/\lH β β' ids fr i=β' k)\/(cQ h β i/\i∉ids/\lH β β' ids fr i=β i/\(rf T v ao=true\/i∉bor)):=by
  intro i ⟨h1,h2⟩;rcases vp i with⟨k,o,hk,rfl⟩ |hc
  ·left;have jA:=(List.getElem?_eq_some_iff.1 hk).1;rw[hA k o hk,Ju]at h1;rw[rV k jA]at h2;exact⟨k,jA,rfl,⟨by rw[dd hk];exact h1,h2⟩,rV k jA⟩
  ·right;rcases hB i hc with⟨h3,h4⟩ | ⟨_,_,h3⟩
   ·rw[h3]at h1;obtain⟨h5,h6⟩:=H_ i hc (aj.t_ h1);rw[h5]at h2;exact⟨⟨h1,h2⟩,h6,h5,h4⟩
   ·rw[h3,hro_rw]at h1;cases h1
 have H':∀k,cQ (a_ ao) β' k->(∃i,i∈ids/\cQ h β i/\(β i).a=(β' k).a)\/w.heap.size<=(β' k).a:=by
  intro k hk;rcases gd.a.r k hk with⟨k',hk',e⟩ |e
  ·obtain⟨i,hi,mi,ei⟩:=nE hk';exact .inl ⟨i,eg hi,mi,ei.symm.trans e⟩
  ·exact .inr e
 have ajG:∀b,b<w.heap.size->(∀i,cQ h β i->i∈ids->(β i).a≠b)->w'.heap[b]? =w.heap[b]? :=λb hb hn=>
  gd.a.d b hb (λk hk he=>by
   obtain⟨i,hi,mi,ei⟩:=nE hk;exact hn i mi (eg hi) (ei.symm.trans he))
 have EG:∀i,iz (h i) (β i) (H i) (lH β β' ids fr i):=by
  intro i;cases ec:(h i).D with
  |false=>
   cases hq:h i with
   |c=>trivial
   |_=>rw[hq]at ec;cases ec
  |true=>
   rcases vp i with⟨k,o,hk,rfl⟩ |hc
   ·have jA:=(List.getElem?_eq_some_iff.1 hk).1;rcases od k ids.length with h1 |h1
    ·have h2:=cV h1;have h3:=gd.a.u k h1;have aKq:j9 ids fr k=ids[k]:=xW h2;rw[qe h2,re h2,dd hk]at h3;rw[hA k o hk,rV k jA,aKq];have hg:p_ view ids k=(h ids[k]).V:=by rw[p_,h2];exact dh aj.V (zB _ (mE h1)).1
     rw[hg];cases hq:h ids[k]with
     |c=>trivial
     |a ro cs=>rw[hq]at h3;obtain⟨⟨ro',cs',rfl⟩,e⟩:=h3;exact⟨⟨_,_,rfl⟩,e⟩
     |b ro g t vs=>
      rw[hq]at h3;obtain⟨ro',g',t',vs',rfl,hg',e⟩:=h3;refine⟨ro',_,t',vs',rfl,?_,λhe=>e ?_⟩
      ·show g<=g'+g;omega
      ·have he:g=g'+g:=he;show 0=g';omega
     |d ro t ks vs=>rw[hq]at h3;obtain⟨⟨ro',t',ks',vs',rfl⟩,e⟩:=h3;exact⟨⟨_,_,_,_,rfl⟩,e⟩
     |f ro s k=>rw[hq]at h3;obtain⟨⟨ro',s',k',rfl⟩,e⟩:=h3;exact⟨⟨_,_,_,rfl⟩,e⟩
    ·rw[z6 h1]at ec;exact absurd ⟨ab,ab⟩ (cM _ ec)
   ·rw[(H_ i hc ec).1];rcases hB i hc with⟨h3,_⟩ | ⟨_,_,h3⟩
    ·rw[h3];exact iz.D _ _
    ·rw[h3];cases hq:h i with
     |c=>trivial
     |a ro cs=>exact⟨⟨_,_,rfl⟩,rfl⟩
     |b ro g t vs=>exact⟨_,_,_,_,rfl,bj _,λ_=>⟨rfl,rfl,rfl⟩⟩
     |d ro t ks vs=>exact⟨⟨_,_,_,_,rfl⟩,rfl⟩
     |f ro s k=>exact⟨⟨_,_,_,rfl⟩,rfl⟩
 have st:dF h β w H (lH β β' ids fr) w':=by
  refine⟨gd.a.f,gd.a.n,gd.a.p,gd.a.c,λb hb hn=>ajG b hb (λi mi _=>hn i mi),λi hi=> ?_,EG⟩;rcases iu i hi with⟨k,_,_,mk,e⟩ | ⟨mi,_,e,_⟩
  ·rw[e];rcases H' k mk with⟨j,_,mj,ej⟩ |e'
   ·exact .inl ⟨j,mj,ej⟩
   ·exact .inr e'
  ·exact .inl ⟨i,mi,by rw[e]⟩
 have hk:=st.Jh cx;have xy:∀b,aY Z H (lH β β' ids fr) b->aY (xX Z h β ids bor) (a_ ao) β' b\/(rf T v ao=true/\∃j,j∈bor/\cQ h β j/\(β j).a=b):=by
  rintro b (hz | ⟨i,hi,e⟩)
  ·exact .inl (.inl (.inl hz))
  ·rcases iu i hi with⟨k,_,_,mk,e'⟩ | ⟨mi,zC,e',hl⟩
   ·exact .inl (.inr ⟨k,mk,by rw[<-e'];exact e⟩)
   ·rw[e']at e;by_cases cX:i∈bor
    ·exact .inr ⟨hl.resolve_right (λhn=>hn cX),i,cX,mi,e⟩
    ·exact .inl (.inl (.inr ⟨i,mi,zC,cX,e⟩))
 have ER:∀(O:Nat->Prop)(r:aa)(y:Value),bW T (a_ ao) β' r y->ax T w' O (gz (λi=>some (j9 ids fr i)) (λi g=>some (g+p_ view ids i)) r) (bW T H (lH β β' ids fr)) y:=by
  intro O r y hr;have aux:∀k o,a_ ao k=o->o.D=true->ao[k]? =some o/\k<ao.length:=λk o he ha=>by
   rw[oC]at he;cases hq:ao[k]? with
   |none=>rw[hq]at he;subst he;cases ha
   |some o'=>rw[hq]at he;simp at he;subst he;exact⟨rfl,(List.getElem?_eq_some_iff.1 hq).1⟩
  cases r with
  |e i j=>obtain⟨⟨ro,cs,e⟩,hy⟩:=hr;obtain⟨h1,h2⟩:=aux i _ e rfl;exact⟨⟨ro,_,hA i _ h1⟩,by rw[rV i h2];exact hy⟩
  |y t i g n=>obtain⟨ro,g',t',vs,e,hg,lz,hx⟩:=hr;obtain⟨h1,h2⟩:=aux i _ e rfl;refine⟨ro,g'+p_ view ids i,t',vs,hA i _ h1,ab,lz,λhe=> ?_⟩;rw[rV i h2];exact hx ab
  |K t i g o n=>obtain⟨ro,g',t',vs,e,hg,lz,hx⟩:=hr;obtain⟨h1,h2⟩:=aux i _ e rfl;refine⟨ro,g'+p_ view ids i,t',vs,hA i _ h1,ab,lz,λhe=> ?_⟩;rw[rV i h2];exact hx ab
  |H i g a j=>obtain⟨ro,g',t',vs,e,hg,lz,hx⟩:=hr;obtain⟨h1,h2⟩:=aux i _ e rfl;refine⟨ro,g'+p_ view ids i,t',vs,hA i _ h1,ab,lz,λhe=> ?_⟩;rw[rV i h2];exact hx ab
  |F i=>obtain⟨⟨ro,t,ks,vs,e⟩,hy⟩:=hr;obtain⟨h1,h2⟩:=aux i _ e rfl;exact⟨⟨ro,_,_,_,hA i _ h1⟩,by rw[rV i h2];exact hy⟩
  |L i=>obtain⟨⟨ro,s,k,e⟩,hy⟩:=hr;obtain⟨h1,h2⟩:=aux i _ e rfl;exact⟨⟨ro,_,_,hA i _ h1⟩,by rw[rV i h2];exact hy⟩
  |G t i n=>obtain⟨⟨ro,cs,e⟩,hy⟩:=hr;obtain⟨h1,h2⟩:=aux i _ e rfl;exact⟨⟨ro,_,hA i _ h1⟩,by rw[rV i h2];exact hy⟩
  |_=>exact hr.elim
 have cC:∀i,cQ h β i->(β i).a<w.heap.size:=λi mi=>(cx.c i).D (aj.t_ mi.1) mi.2;refine⟨⟨λi=> ?_,λi ha hr hn=> ?_,λa b vi ha hb=> ?_,λb hz=>dJ (cx.m b hz) gd.a.c,λi hi hz=> ?_,λg=>dU.D hk (cx.n g)⟩,st,?_,λi hi=> ?_⟩
 ·rcases vp i with⟨k,o,rW,rfl⟩ |hc
  ·have jA:=(List.getElem?_eq_some_iff.1 rW).1;rw[hA k o rW,rV k jA];have h1:=gd.c.c k;rw[dd rW]at h1;refine gM.amw _ (λr y hr=>ER _ r y hr) ?_;cases hl:rf T v ao with
   |true=>unfold rf at hl;rw[au,dS]at hl;have h2:=hl.2 o (eg rW);rw[au]at h2;exact h1.amv h2.1
   |false=>
    refine h1.I (cz.D (λb hb=> ?_)) (λ_ _ h=>h) (λ_=>rfl);rcases xy b hb with h2 | ⟨h2,_⟩
    ·exact h2
    ·rw[hl]at h2;cases h2
  ·cases Ia:(h i).D with
   |false=>
    have hq:h i=.c:=by
     cases hq:h i with
     |c=>rfl
     |_=>rw[hq]at Ia;cases Ia
    have:H i=.c:=by rcases hB i hc with⟨h3,_⟩ | ⟨_,_,h3⟩<;>rw[h3,hq];rfl
    rw[this];trivial
   |true=>
    obtain⟨h5,h6⟩:=H_ i hc Ia;rw[h5];have h7:gM T w' (aY Z H (lH β β' ids fr)) (bW T H (lH β β' ids fr)) (β i) (h i):=by
     refine(cx.c i).I hk (λ_ _ h=>st.Z7 h) (λhn=> ?_);have hl:=(cx.c i).D Ia hn;refine ajG _ hl (λj mj hj e=> ?_);by_cases jM:(h i).I=true
     ·exact cx.d j i (λe'=>h6 (by rw[<-e'];exact hj)) mj ⟨jM,hn⟩ e
     ·exact cx.p i Ia (by simpa using jM) hn (.inr ⟨j,mj,e⟩)
    rcases hB i hc with⟨h3,_⟩ | ⟨_,_,h3⟩
    ·rw[h3];exact h7
    ·rw[h3];exact h7.U
 ·rcases vp i with⟨k,o,rW,rfl⟩ |hc
  ·have jA:=(List.getElem?_eq_some_iff.1 rW).1;rw[hA k o rW]at ha hr;rw[aaN]at ha;rw[Ju]at hr;rw[rV k jA]at hn⊢;intro hO;rcases xy _ hO with h2 | ⟨h2,_⟩
   ·exact gd.c.p k (by rw[dd rW];exact ha) (by rw[dd rW];exact hr) hn h2
   ·unfold rf at h2;rw[au,dS]at h2;have h3:=h2.2 o (eg rW);rw[hr,ha]at h3;simp at h3
  ·rcases hB i hc with⟨h3,_⟩ | ⟨cX,_,h3⟩
   ·rw[h3]at ha hr;obtain⟨h5,h6⟩:=H_ i hc ha;rw[h5]at hn⊢;exact hk.d _ ((cx.c i).D ha hn) (cx.p i ha hr hn)
   ·rw[h3,hro_alive]at ha;obtain⟨h5,h6⟩:=H_ i hc ha;rw[h5]at hn⊢;have hl:=(cx.c i).D ha hn;by_cases jM:(h i).I=true
    ·have mi:cQ h β i:=⟨jM,hn⟩
     rintro(hz | ⟨j,mj,e⟩)
     ·exact cx.f i mi hz
     ·have Nt:j≠i:=λe'=>by subst e';have:=mj.1;rw[h3,hro_rw]at this;cases this
      rcases iu j mj with⟨k,_,_,mk,e'⟩ | ⟨mj',_,e',_⟩
      ·rw[e']at e;rcases H' k mk with⟨a,ha',ma,ea⟩ |e2
       ·exact cx.d a i (λe3=>h6 (by rw[<-e3];exact ha')) ma mi (ea.trans e)
       ·omega
      ·rw[e']at e;exact cx.d j i Nt mj' mi e
    ·exact hk.d _ hl (cx.p i ha (by simpa using jM) hn)
 ·rcases iu a ha with⟨k,jA,aKr,mk,e⟩ | ⟨ma,aKs,e,_⟩<;>rcases iu b hb with⟨k',aM0,aKt,mk',e'⟩ | ⟨mb,pc,e',_⟩<;>rw[e,e']
  ·exact gd.c.d k k' (λh1=>vi (by rw[<-aKr,<-aKt,h1])) mk mk'
  ·intro h1;rcases H' k mk with⟨j,hj,mj,ej⟩ |e2
   ·exact cx.d j b (λh2=>pc (by rw[<-h2];exact hj)) mj mb (ej.trans h1)
   ·have:=cC b mb;omega
  ·intro h1;rcases H' k' mk' with⟨j,hj,mj,ej⟩ |e2
   ·exact cx.d j a (λh2=>aKs (by rw[<-h2];exact hj)) mj ma (ej.trans h1.symm)
   ·have:=cC a ma;omega
  ·exact cx.d a b vi ma mb
 ·rcases iu i hi with⟨k,_,_,mk,e⟩ | ⟨mi,_,e,_⟩
  ·rw[e]at hz;rcases H' k mk with⟨j,_,mj,ej⟩ |e2
   ·rw[<-ej]at hz;exact cx.f j mj hz
   ·have:=cx.m _ hz;omega
  ·rw[e]at hz;exact cx.f i mi hz
 ·unfold I3;rw[aa.Cl];refine ax.Fj v _ _ x (λr y hr=>ER _ r y hr) ?_;cases hl:rf T v ao with
  |true=>unfold rf at hl;rw[au]at hl;exact ax.V v _ _ hl.1 gd.b
  |false=>
   refine ax.D (cz.D (λb hb=> ?_)) v _ _ x (λ_ _ h=>h) gd.b;rcases xy b hb with h2 | ⟨h2,_⟩
   ·exact h2
   ·rw[hl]at h2;cases h2
 ·rcases vp i with⟨k,o,rW,rfl⟩ |hc
  ·have jA:=(List.getElem?_eq_some_iff.1 rW).1;rcases od k ids.length with h1 |h1
   ·rw[xW (cV h1)];exact .inl (zB _ (mE h1)).2
   ·rw[z6 h1];exact .inr ⟨ab,ab⟩
  ·rcases hB i hc with⟨h3,_⟩ | ⟨cX,_,_⟩
   ·exact absurd h3 hi
   ·exact .inl (H8 i cX).2.1
end
section
variable{E:bD}{P:Program}{Z:Nat->Prop}{h view:Nat->aj}{β:Nat->bd}{w:World}{s:Nat->aa}{a:Act}{fr:Nat}{o:Oper}{r:di}
def xY(h:Nat->aj)(S:List Nat)(i:Nat):bU h (jE h S) i=if i∈S then(h i).U else h i:=Jy (λk=>(h k).U) S h i
def amx(o:aj):o.U.I=false:=by cases o<;>rfl
def amy(o:aj):o.U.D=o.D:=by cases o<;>rfl
def amz(o:aj)(l:bd):iz o l o.U l:=by
 cases o with
 |c=>trivial
 |a ro cs=>exact⟨⟨_,_,rfl⟩,rfl⟩
 |b ro g t vs=>exact⟨_,_,_,_,rfl,bj _,λ_=>⟨rfl,rfl,rfl⟩⟩
 |d ro t ks vs=>exact⟨⟨_,_,_,_,rfl⟩,rfl⟩
 |f ro s k=>exact⟨⟨_,_,_,rfl⟩,rfl⟩
def CC(hm:cQ (bU h (jE h S)) β i):i∉S/\cQ h β i:=by
 obtain⟨h1,h2⟩:=hm;rw[xY]at h1;by_cases hi:i∈S
 ·rw[if_pos hi,amx]at h1;cases h1
 ·rw[if_neg hi]at h1;exact⟨hi,h1,h2⟩
def CE(ho:aY Z (bU h (jE h S)) β b):aY Z h β b:=by
 rcases ho with h1 | ⟨i,h1,h2⟩
 ·exact .inl h1
 ·exact .inr ⟨i,(CC h1).2,h2⟩
def Pf(S:List Nat)(i:Nat):iz (h i) (β i) (bU h (jE h S) i) (β i):=by
 rw[xY];by_cases hi:i∈S
 ·rw[if_pos hi];exact amz _ _
 ·rw[if_neg hi];exact iz.D _ _
def aaV(cx:cY T G Z h β w)(hi:i∈S)(ha:(h i).D=true)(hn:(β i).d=false):¬aY Z (bU h (jE h S)) β (β i).a:=by
 intro ho;by_cases hm:(h i).I=true
 ·rcases ho with h1 | ⟨j,h1,h2⟩
  ·exact cx.f i ⟨hm,hn⟩ h1
  ·obtain⟨h3,h4⟩:=CC h1;exact cx.d j i (λe=>h3 (e▸hi)) h4 ⟨hm,hn⟩ h2
 ·exact cx.p i ha (by simpa using hm) hn (CE ho)
def amA(cx:cY T G Z h β w)(S:List Nat):cY T G Z (bU h (jE h S)) β w := {
 c i:=by
  have h1:gM T w (aY Z (bU h (jE h S)) β) (bW T (bU h (jE h S)) β) (β i) (h i):=
   gM.I (cz.D λb hb=>CE hb) (λr y hr=>Fm (λi=>Pf S i) hr) (λ_=>rfl) (cx.c i)
  rw[xY];by_cases hi:i∈S
  ·rw[if_pos hi];exact h1.U
  ·rw[if_neg hi];exact h1
 p i ha hr hn:=by
  rw[xY]at ha hr;by_cases hi:i∈S
  ·rw[if_pos hi,amy]at ha;exact aaV cx hi ha hn
  ·rw[if_neg hi]at ha hr;exact λho=>cx.p i ha hr hn (CE ho)
 d i j gH hi hj:=cx.d i j gH (CC hi).2 (CC hj).2
 m:=cx.m
 f i hi:=cx.f i (CC hi).2
 n g:=dU.D (cz.D λb hb=>CE hb) (cx.n g) }
def amB(S:List Nat):dF h β w (bU h (jE h S)) β w := {
 g:=rfl
 l:=rfl
 n:=rfl
 d:=bj _
 f _ _ _:=rfl
 c i hi:=.inl ⟨i,(CC hi).2,rfl⟩
 o i:=Pf S i }
def amC(ty:cH P E.a)(cx:cY E.a E.b Z h β w)(EN:pt view h)(de:h fr=.c){v2:aa}
  (ho:o.op=.call ⟨.builtin .append,#[x,y],#[t,t]⟩)(bH:(E.a e).D=true)(hu:P.underlying t=some (.slice e))(hx:ax E.a w (aY Z h β) v1 (bW E.a h β) (a.eval x))(hy:ax E.a w (aY Z h β) v2 (bW E.a h β) (a.eval y))
  (he:(On E.a view fr e v1 v2).D=some r):mf E P Z h β w a fr o r:=by
 unfold On at he;split at he
 ·rename_i t2 i n;split at he
  ·rename_i lC;split at he
   ·rename_i e' new jg;split at he
    ·rename_i NC;obtain rfl:=aV NC;obtain⟨r',h1,h2⟩:=cm he;obtain⟨S,hS⟩:∃S,S=me view [i]:=⟨_,rfl⟩
     rw[<-hS]at lC h1 h2;unfold xN at lC;simp only[Nb,qJ,dS,au]at lC;have ajH:∀k∈S,view k=h k:=λk hk=>by
      rcases EN k with h3 |h3
      ·have:=(lC k hk).1.1;rw[h3]at this;cases this
      ·exact h3
     have ajI:jE view S=jE h S:=XW λk hk=>by rw[ajH k hk]
     have vl:∀k∈S,(h k).D=true:=λk hk=>by rw[<-ajH k hk];exact(lC k hk).1.1
     rw[ajI]at h1 h2;have eo:=CB (O':=aY Z (bU h (jE h S)) β) ty cx EN (λb hb=>CE hb) (S:=S) (λk hk j hj=>by simpa using (lC k hk).2 j hj) (λk hk ha hn=>aaV cx hk ha hn)
      zO _ _ bh (λk hk=>by
       simp[aa.dP]at hk;subst hk;rw[hS];exact O6 _ _ aB) hy
     rw[jg]at eo;obtain⟨ad,cap,qU,_,k_⟩:=eo;have c1:=amA cx S;have tJ:new=[]\/∃b o,ad=some ⟨b,o,none⟩/\bN E.a w (aY Z (bU h (jE h S)) β) new e b o:=by
      rcases k_ with h3 | ⟨b,o,h3,_,_,h4⟩
      ·exact .inl h3
      ·exact .inr ⟨b,o,h3,h4⟩
     have aKu:pt (bU view (jE h S)) (bU h (jE h S)):=λk=>by
      have e1:bU view (jE h S) k=if k∈S then(h k).U else view k:=by show bU view (S.map λk=>(k,(h k).U)) k=_;exact Jy (λk=>(h k).U) S view k
      rw[e1,xY];by_cases hk:k∈S
      ·rw[if_pos hk,if_pos hk];exact .inr rfl
      ·rw[if_neg hk,if_neg hk];exact EN k
     have aKv:bU h (jE h S) fr=.c:=by
      rw[xY];by_cases hk:fr∈S
      ·have:=vl fr hk;rw[de]at this;cases this
      ·rw[if_neg hk];exact de
     obtain⟨v,u,z,w',β',hr',bm,hd⟩:=aaC ty c1 aKu aKv ho bH hu (ax.D (cz.D λb hb=>CE hb) v1 _ _ _ (λr y hr=>Fm (λi=>Pf S i) hr) hx) qU tJ h1;subst hr';simp only[af.D,Option.some.injEq]at h2;have ND:bU h (jE h S++u)=bU (bU h (jE h S)) u:=Jw _ _ _;refine⟨v,jE h S++u,z,w',β',h2.symm,bm,?_,?_,?_,?_⟩
     ·rw[ND];exact hd.b
     ·rw[ND];exact(amB S).I hd.a
     ·rw[ND];exact hd.c
     ·rw[ND];intro k hk;by_cases Yi:k∈S
      ·exact .inl (vl k Yi)
      ·by_cases gU:bU (bU h (jE h S)) u k=bU h (jE h S) k
       ·rw[gU,xY,if_neg Yi]at hk;exact absurd rfl hk
       ·rcases hd.d k gU with h3 |h3
        ·rw[xY,if_neg Yi]at h3;exact .inl h3
        ·exact .inr h3
    ·simp[af.D]at he
   ·simp[af.D]at he
  ·simp[af.D]at he
 ·simp[af.D]at he
def amD(c:ed E P Z h view β w s a)(de:h fr=.c){b:Builtin}(ho:o.op=.call cl)(hb:cl.callee=.builtin b)(he:(cj E view s fr o).D=some r):mf E P Z h β w a fr o r:=by
 obtain⟨callee,args,argTypes⟩:=cl;simp only at hb;subst hb;simp only[cj,ho]at he;unfold I2 at he;split at he
 ·rename_i v cN;obtain⟨x,rfl,hv⟩:=amm cN;have hx:=c.D x;rw[hv]at hx;split at he
  ·rename_i t ht;obtain rfl:argTypes= #[t]:=by obtain⟨l⟩:=argTypes;simp at ht;rw[ht]
   split at he
   ·rename_i d v' x hd;simp only[af.D,Option.some.injEq]at he;obtain⟨bs,kA,h2⟩:=hx;obtain⟨hu,_⟩:=(c.b.D (jh hd aB)).Cu hd;subst h2;refine fM.D c ⟨_,.int .i64 bs.data.toList.length,he.symm,?_,rfl⟩;simp[execOp,ho,resolve,invoke,builtin,kA,Builtin.len_,dR hu,goInt]
   ·rename_i v' e hd;split at he
    ·rename_i n hn;simp only[af.D,Option.some.injEq]at he;obtain⟨ad,cp,kA⟩:=amo c hx hn;obtain⟨hu,_⟩:=(c.b.D (jh hd aB)).I hd;refine fM.D c ⟨_,.int .i64 n,he.symm,?_,rfl⟩;simp[execOp,ho,resolve,invoke,builtin,kA,Builtin.len_,dR hu,goInt]
    ·simp[af.D]at he
   ·simp[af.D]at he
  ·simp[af.D]at he
 ·rename_i v1 v2 cN;obtain⟨x,y,rfl,Ib,BS⟩:=O3 cN;have hx:=c.D x;have hy:=c.D y;rw[Ib]at hx;rw[BS]at hy;split at he
  ·rename_i t t' ht;obtain rfl:argTypes= #[t,t']:=by obtain⟨l⟩:=argTypes;simp at ht;rw[ht]
   split at he
   ·simp[af.D]at he
   ·rename_i Yg;obtain rfl:=aV Yg;split at he
    ·rename_i e hd;obtain⟨hu,_⟩:=(c.b.D (jh hd aB)).I hd;split at he
     ·simp[af.D]at he
     ·rename_i bH;split at he
      ·rename_i e' new zD;split at he
       ·rename_i NC;obtain⟨ad,cap,qU,_,k_⟩:=alP c.d c.e hy zD;have tJ:new=[]\/∃b o,ad=some ⟨b,o,none⟩/\bN E.a w (aY Z h β) new e b o:=by
         rcases k_ with h1 | ⟨b,o,h1,_,h3⟩
         ·exact .inl h1
         ·cases new with
          |nil=>exact .inl rfl
          |cons u new=>simp at NC;obtain rfl:=NC;exact .inr ⟨b,o,h1,h3⟩
        exact aaC c.b c.d c.e de ho bH hu hx qU tJ he
       ·simp[af.D]at he
      ·exact amC c.b c.d c.e de ho bH hu hx hy he
    ·simp[af.D]at he
  ·simp[af.D]at he
 ·rename_i k p k' q cN;obtain⟨x,y,rfl,Ib,BS⟩:=O3 cN;have hx:=c.D x;have hy:=c.D y;rw[Ib]at hx;rw[BS]at hy;have kA:a.eval x=.int k p:=hx;have qU:a.eval y=.int k' q:=hy;split at he
  ·simp only[af.D,Option.some.injEq]at he;refine fM.D c ⟨_,.int k (if q>p then q else p),he.symm,?_,?_⟩
   ·simp[execOp,ho,resolve,invoke,builtin,kA,qU,Builtin.max_,Builtin.max2]
   ·by_cases hq:q>p
    ·simp[hq,ax]
    ·simp[hq,ax]
  ·simp[af.D]at he
 ·rename_i k p k' q cN;obtain⟨x,y,rfl,Ib,BS⟩:=O3 cN;have hx:=c.D x;have hy:=c.D y;rw[Ib]at hx;rw[BS]at hy;have kA:a.eval x=.int k p:=hx;have qU:a.eval y=.int k' q:=hy;split at he
  ·simp only[af.D,Option.some.injEq]at he;refine fM.D c ⟨_,.int k (if q<p then q else p),he.symm,?_,?_⟩
   ·simp[execOp,ho,resolve,invoke,builtin,kA,qU,Builtin.min_,Builtin.min2]
   ·by_cases hq:q<p
    ·simp[hq,ax]
    ·simp[hq,ax]
  ·simp[af.D]at he
 ·simp[af.D]at he
end
section
variable{T:TypeId->bz}{G:Nat->aa}{E:bD}{P:Program}{Z:Nat->Prop}{h view:Nat->aj}{β:Nat->bd}{w:World}{s:Nat->aa}{a:Act}{fr:Nat}{o:Oper}{r:di}
def kE(T:TypeId->bz)(G:Nat->aa)(Z:Nat->Prop)(ao:List aj)(β:Nat->bd)(w:World)(out:aC):Ending->World->Prop
 | .returned x,w'=>∃v mG β',out=.a v mG/\Pd T G Z ao.length (a_ ao) β w v mG β' w' x
 | .panicked chain,w'=>∃v mG β' x,out=.b v mG/\v.gx=true/\chain=[{v:=x,recovered:=false}]/\Pd T G Z ao.length (a_ ao) β w v mG β' w' x
 | .outgrown,_=>False
def xZ(P:Program)(f:FuncId)(bk:Array Value)(w:World)(R:Ending->World->Prop):Prop:=
 ((callFunc f bk).run P w=.ok (.enter f bk) w/\Calls P f bk w R)\/(∃x w',(callFunc f bk).run P w=.ok (.value x) w'/\R (.returned x) w')
def ck(T:TypeId->bz)(G:Nat->aa)(P:Program)(f:FuncId)(C:List aa->List aj->af aC):Prop:=
 ∀args ao out,(C args ao).D=some out->(∀o∈ao,o.V=0)->∀(Z:Nat->Prop) β w(bk:Array Value),cY T G Z (a_ ao) β w->aF T w (aY Z (a_ ao) β) args (bW T (a_ ao) β) bk.toList->
  xZ P f bk w (kE T G Z ao β w out)
def aaW(hv:∀i∈ids,view i=h i)(δ:Nat->Nat->Nat):gz (iy ids) (nA view δ)=gz (iy ids) (nA h δ):=by
 have hg:∀i k g,iy ids i=some k->nA view δ i g=nA h δ i g:=λi k g hp=>by unfold nA;rw[hv i (eg (q_ hp))]
 funext v
 cases v<;>simp only[gz]<;>first |rfl |skip
 all_goals
  rename_i i _ _ _
  first
   | (cases hp:iy ids i with
    |none=>rfl
    |some k=>simp only[hg i k _ hp])
   |skip
 all_goals
  rename_i i _ _;cases hp:iy ids i with
  |none=>rfl
  |some k=>simp only[hg i k _ hp]
def amE(hv:∀i∈ids,view i=h i)(δ:Nat->Nat->Nat):kB view δ ids=kB h δ ids:=by unfold kB;rw[aaW hv];exact XW (λi hi=>by rw[hv i hi])
mutual
def Pg{φ:aa->aa}:∀(v:aa),v.dP=[]->v.dY φ=v
 | .m,_=>by simp[aa.dY]
 | .p _,_=>by simp[aa.dY]
 | .c _ _,_=>by simp[aa.dY]
 | .h _,_=>by simp[aa.dY]
 | .B,_=>by simp[aa.dY]
 | .E,_=>by simp[aa.dY]
 | .w,_=>by simp[aa.dY]
 | .O ..,_=>by simp[aa.dY]
 | .N,_=>by simp[aa.dY]
 | .M,_=>by simp[aa.dY]
 | .u cs,h=>by rw[aa.dY,Fy cs (by simpa[aa.dP] using h)]
 | .q cs,h=>by rw[aa.dY,Fy cs (by simpa[aa.dP] using h)]
 | .d _ _,_=>by simp[aa.dY]
 | .A _,_=>by simp[aa.dY]
 | .J _ _ _,_=>by simp[aa.dY]
 | .z f a b,h=>by rw[aa.dP,ajk]at h;rw[aa.dY,Fy a h.1,Fy b h.2]
 | .C t v,h=>by rw[aa.dY,Pg v (by simpa[aa.dP] using h)]
 | .e ..,h=>by simp[aa.dP]at h
 | .y ..,h=>by simp[aa.dP]at h
 | .K ..,h=>by simp[aa.dP]at h
 | .H ..,h=>by simp[aa.dP]at h
 | .F ..,h=>by simp[aa.dP]at h
 | .G ..,h=>by simp[aa.dP]at h
 | .L ..,h=>by simp[aa.dP]at h
def Fy{φ:aa->aa}:∀(vs:List aa),aa.jD vs=[]->aa.nz φ vs=vs
 | [],_=>by simp[aa.nz]
 |v::vs,h=>by rw[aa.jD,ajk]at h;rw[aa.nz,Pg v h.1,Fy vs h.2]
end
def amF(h:v.gx=true):v.dY φ=v:=Pg v (by simpa[aa.gx] using h)
def Ph{O O':Nat->Prop}{R R':aa->Value->Prop}{φ:aa->aa}(S:List Nat)(h1:∀v x,ax T w O v R x->ax T w O' (φ v) R' x)(h2:∀v x,(∀i∈v.dP,i∈S)->ax T w O v R x->ax T w O' (tX T view zO v) R' x):
  ∀(args:List aa)(m:List Bool)(l:List Value),(∀i∈aa.jD (si m args).2,i∈S)->aF T w O args R l->aF T w O' (E9 T view φ m args) R' l
 | [],m,l,_,h=>h
 |v::r,m,_,hS,⟨x,l,rfl,g1,g2⟩=>by
  rw[E9];have EM:si m (v::r)=(match m.headD false with |true=>(v::(si m.tail r).1,(si m.tail r).2) |false=>((si m.tail r).1,v::(si m.tail r).2)):=rfl;rw[EM]at hS;cases hm:m.headD false with
  |true=>rw[hm]at hS;exact⟨x,l,rfl,h1 v x g1,Ph S h1 h2 r m.tail l hS g2⟩
  |false=>rw[hm]at hS;simp only[aa.jD]at hS;exact⟨x,l,rfl,h2 v x (λi hi=>hS i (List.mem_append.2 (.inl hi))) g1,Ph S h1 h2 r m.tail l (λi hi=>hS i (List.mem_append.2 (.inr hi))) g2⟩
def JA(E:bD)(Z:Nat->Prop)(h:Nat->aj)(β:Nat->bd)(w:World)(a:Act)(fr:Nat)(o:Oper)(r:di)(next:Act->World->Prop)(Q:Exit->Act->World->Prop):Prop:=
 (∀v u x w' β',r=.a v u->Fu E Z h β w fr v u x β' w'->next (a.put o.dst x) w')/\
 (∀v u x w' β',r=.b v u->v.gx=true->Fu E Z h β w fr v u x β' w'->Q (.panic [{v:=x,recovered:=false}]) a w')
def aaX(E:bD)(Z:Nat->Prop)(h:Nat->aj)(β:Nat->bd)(w:World)(fr:Nat)(r:di)(e:Ending)(w':World):Prop:=match e with
   | .returned x=>∃v u β',r=.a v u/\Fu E Z h β w fr v u x β' w'
   | .panicked chain=>∃v u x β',r=.b v u/\v.gx=true/\chain=[{v:=x,recovered:=false}]/\Fu E Z h β w fr v u x β' w'
   | .outgrown=>False
def aaY(hT:cH P E.a)(cx:cY E.a E.b Z h β w)(hv:pt view h)(de:∀i,fr<=i->i<fr+64->h i=.c){g:FuncId}
  (cN:aF E.a w (aY Z h β) args (bW E.a h β) bk.toList)(he:(Cq E view fr g args).D=some r):
  ∃(Z':Nat->Prop)(Ic:List aa)(ao:List aj)(out:aC)(β0:Nat->bd),(E.f g Ic ao).D=some out/\(∀o∈ao,o.V=0)/\cY E.a E.b Z' (a_ ao) β0 w/\
   aF E.a w (aY Z' (a_ ao) β0) Ic (bW E.a (a_ ao) β0) bk.toList/\∀e w',kE E.a E.b Z' ao β0 w out e w'->aaX E Z h β w fr r e w':=by
 unfold Cq at he;rw[aa.tW,aa.tW]at he;obtain⟨ids,zB⟩:∃ids,ids=me view (aa.jD (si (E.e g) args).1):=⟨_,rfl⟩
 obtain⟨bor,H8⟩:∃bor,bor=me view (aa.jD (si (E.e g) args).2):=⟨_,rfl⟩
 rw[<-zB,<-H8]at he;simp only at he;split at he
 ·simp[af.D]at he
 ·rename_i lC;obtain⟨out,h1,h2⟩:=cm he;have cP:ids.Nodup:=zB▸CA _ _;have Yj:=lC;unfold xN at Yj;rw[au,dS,dS]at Yj;obtain⟨vl,BR⟩:=Yj;have ajJ:∀i∈ids,view i=h i/\(h i).D=true:=λi hi=>by
   have h1:=vl i hi;rcases hv i with h2 |h2
   ·rw[h2]at h1;cases h1
   ·exact⟨h2,by rw[<-h2];exact h1⟩
  rw[amE (λi hi=>(ajJ i hi).1)]at h1;have hZ:∀b,xX Z h β ids bor b->aY Z h β b:=by
   rintro b (hz | ⟨i,mi,_,_,e⟩)
   ·exact .inl hz
   ·exact .inr ⟨i,mi,e⟩
  have cC:∀i,cQ h β i->(β i).a<w.heap.size:=λi mi=>(cx.c i).D (aj.t_ mi.1) mi.2;have cxE:cY E.a E.b (xX Z h β ids bor) (jF h pZ ids) (eV β ids) w:=cx.U cP hZ
   (by
    rintro b (hz | ⟨i,mi,_,_,e⟩)
    ·exact cx.m b hz
    ·rw[<-e];exact cC i mi)
   (by
    rintro i hi mi (hz | ⟨j,mj,hj,_,e⟩)
    ·exact cx.f i mi hz
    ·exact cx.d j i (λe'=>hj (by rw[e'];exact hi)) mj mi e)
  have hO:∀b,aY (xX Z h β ids bor) (jF h pZ ids) (eV β ids) b->aY Z h β b:=su hZ;have aKw:∀i∈bor,(h i).D=true->(β i).d=false->¬aY (xX Z h β ids bor) (jF h pZ ids) (eV β ids) (β i).a:=by
   intro i hi ha hn ho;have zC:i∉ids:=by have:=BR i hi;simp only[au,kr]at this;simpa using this.1.2
   by_cases jM:(h i).I=true
   ·have mi:cQ h β i:=⟨jM,hn⟩
    rcases ho with(hz | ⟨j,mj,_,hj,e⟩) | ⟨k,mk,e⟩
    ·exact cx.f i mi hz
    ·exact cx.d j i (λe'=>hj (by rw[e'];exact hi)) mj mi e
    ·obtain⟨j,hj,mj,ej⟩:=nE mk;exact cx.d j i (λe'=>zC (by rw[<-e'];exact eg hj)) mj mi (ej.symm.trans e)
   ·exact cx.p i ha (by simpa using jM) hn (hO _ ho)
  have BT:aF E.a w (aY (xX Z h β ids bor) (jF h pZ ids) (eV β ids)) (E9 E.a view (se view pZ ids) (E.e g) args) (bW E.a (jF h pZ ids) (eV β ids)) bk.toList:=by
   refine Ph bor (λv x hr=> ?_) (λv x hS hr=> ?_) args (E.e g) _ (λi hi=>H8▸O6 view _ hi) cN
   ·have:se view pZ ids v=se h pZ ids v:=by unfold se;rw[aaW (λi hi=>(ajJ i hi).1)]
    rw[this];exact hr.O8 hO
   ·refine CB hT cx hv hO (S:=bor) (λi hi j hj=> ?_) aKw _ v x _ hS hr;have:=BR i hi;simp only[au,dS]at this;simpa using this.2 j hj
  have iL:∀o∈kB h pZ ids,o.V=0:=by intro o ho;obtain⟨i,_,rfl⟩:=List.mem_map.1 ho;cases h i<;>rfl
  have hlen:(kB h pZ ids).length=ids.length:=by simp[kB]
  refine⟨xX Z h β ids bor,_,_,out,eV β ids,h1,iL,cxE,BT,?_⟩;intro e w' eC;cases e with
  |returned x=>
   obtain⟨v,mG,β',rfl,gd⟩:=eC;rw[hlen]at gd;simp only[Oq]at h2;split at h2
   ·rename_i hl;rw[au]at hl;simp only[af.D,Option.some.injEq]at h2;obtain⟨c1,c2,c3,c4⟩:=aaU cx hv cP lC de (ft hl.1) (ft hl.2) gd;exact⟨_,_,_,h2.symm,c1,c2,c3,c4⟩
   ·simp[af.D]at h2
  |panicked chain=>
   obtain⟨v,mG,β',x,rfl,gV,rfl,gd⟩:=eC;rw[hlen]at gd;simp only[Oq]at h2;split at h2
   ·rename_i hl;simp only[au]at hl;simp only[af.D,Option.some.injEq]at h2;obtain⟨c1,c2,c3,c4⟩:=aaU cx hv cP lC de (ft hl.1.1) (ft hl.1.2) gd;have h5:ax E.a w' (aY Z (bU h (q7 E.a view ids bor fr v mG)) (lH β β' ids fr)) v (bW E.a (bU h (q7 E.a view ids bor fr v mG)) (lH β β' ids fr)) x:=by have h8:I3 view ids fr v=v:=(aa.Cl _ v).trans (amF gV);rw[h8]at c3;exact c3
    exact⟨_,_,_,_,h2.symm,gV,rfl,c1,c2,h5,c4⟩
   ·simp[af.D]at h2
  |outgrown=>exact eC.elim
def amG(hT:cH P E.a)(cx:cY E.a E.b Z h β w)(hv:pt view h)(de:∀i,fr<=i->i<fr+64->h i=.c){g:FuncId}(hC:ck E.a E.b P g (E.f g))
  (cN:aF E.a w (aY Z h β) args (bW E.a h β) bk.toList)(he:(Cq E view fr g args).D=some r):
  xZ P g bk w (aaX E Z h β w fr r):=by
 obtain⟨Z',Ic,ao,out,β0,h1,h2,h3,h4,fin⟩:=aaY hT cx hv de cN he;rcases hC _ _ out h1 h2 Z' β0 w bk h3 h4 with⟨k1,k2⟩ | ⟨x,w',k1,k2⟩
 ·exact .inl ⟨k1,k2.mono fin⟩
 ·exact .inr ⟨x,w',k1,fin _ _ k2⟩
end
section
variable{E:bD}{P:Program}{Z:Nat->Prop}{h view:Nat->aj}{β:Nat->bd}{w:World}{s:Nat->aa}{a:Act}{fr:Nat}{o:Oper}{r:di}
def amH(c:ed E P Z h view β w s a)(de:h fr=.c)(ho:o.op=.range t x)(he:(cj E view s fr o).D=some r):mf E P Z h β w a fr o r:=by
 simp only[cj,ho]at he;split at he
 ·rename_i b hd hv;simp only[af.D,Option.some.injEq]at he;have hx:=c.D x;rw[hv]at hx;obtain⟨sb,hx,nk⟩:=hx;obtain⟨hu,_⟩:=(c.b.D (by unfold bz.D;rw[hd])).Cu hd;obtain⟨c1,c2⟩:=z1 c.d de (.stringIter sb 0) (.f false b 0) 0 rfl (λO' R' hk hR=>⟨rfl,sb,nk,ji w _⟩);refine⟨_,_,.pointer (some ⟨w.heap.size,0,none⟩),w.alloc (.stringIter sb 0),_,he.symm,.inl ?_,c1,c2,⟨⟨false,_,_,by rw[bU,bU,dt]⟩,by rw[dt]⟩,mg (.inr ⟨bj _,ab⟩)⟩;simp[execOp,ho,Instr.range,hx,dR hu]
 ·simp[af.D]at he
def amI(c:ed E P Z h view β w s a)(ho:o.op=.next x true)(he:(cj E view s fr o).D=some r):mf E P Z h β w a fr o r:=by
 simp only[cj,ho]at he;split at he
 ·rename_i i hv;have hx:=c.D x;rw[hv]at hx;obtain⟨_,hx⟩:=hx;split at he
  ·rename_i b k hq;have cX:=c.e.D hq aB;have dd:=c.d.c i;rw[cX]at dd;obtain⟨hn,sb,nk,hb⟩:=dd;have iu:cQ h β i:=⟨by rw[cX];rfl,hn⟩
   have hlen:sb.size=b.length:=by rw[<-nk,Bw];rfl
   cases j6:Nat.blt k b.length with
   |true=>
    rw[j6]at he;simp only[af.D]at he;obtain⟨ch,ajK⟩:∃ch,ch=b.getD k 0:=⟨_,rfl⟩
    rw[<-ajK]at he;have gW:b[k]? =some ch:=by rw[Ep]at j6;rw[ajK,dD,cV j6];rfl
    obtain⟨h1,h2⟩:=aO he;simp only[af.D,Option.some.injEq]at h2;have cC:k<sb.size:=by rw[hlen];exact(List.getElem?_eq_some_iff.1 gW).1
    have Ns:sb[k]'cC=ch:=by
     have h3:sb.data.toList[k]? =some ch:=by rw[nk];exact gW
     have h4:sb.data[k]? =some ch:=by simpa using h3
     have h5:sb.data[k]? =some (sb.data[k]'cC):=ku cC;rw[h5,Option.some.injEq]at h4;exact h4
    have aKx:=decode_ascii sb k cC (by rw[Ns];exact ft h1);have bm:=Lib.run_next_any_at (P:=P) w (β i).a sb k o.type hb cC;rw[aKx]at bm;have hW:(w.iterAt (β i).a sb (k+1)).heap[(β i).a]? =some (.stringIter sb (k+1)):=by have:=(Array.getElem?_eq_some_iff.1 hb).1;simp[World.iterAt,this]
    obtain⟨c1,c2⟩:=c.d.D (w':=w.iterAt (β i).a sb (k+1)) i (.f false b (k+1)) (β i) rfl rfl rfl (by simp[World.iterAt]) (λb2 eT bL=>by
      show(w.heap.setIfInBounds (β i).a _)[b2]? =_;rw[BA,if_neg (bL iu)]) rfl (λ_=>.inl ⟨iu,rfl⟩)
     (by rw[cX];exact⟨⟨_,_,_,rfl⟩,rfl⟩) (λhk hR=>⟨hn,sb,nk,hW⟩)
    refine⟨_,_,.tuple #[.bool true,.int .i64 k,.int .i32 ch.toNat],_,_,h2.symm,.inl ?_,c1,c2,⟨_,rfl,⟨_,_,rfl,rfl,_,_,rfl,rfl,_,_,rfl,rfl,rfl⟩⟩,mg (.inl (by rw[cX];rfl))⟩;simp only[execOp,ho,hx,eh,bm,fD,ju,Ns]
   |false=>
    rw[j6]at he;simp only[af.D,Option.some.injEq]at he;have BP:¬k<sb.size:=by rw[hlen];exact λh=>by rw[show Nat.blt k b.length=true by rw[Ep];exact h]at j6;cases j6
    have bm:(Instr.next (.pointer (some ⟨(β i).a,0,none⟩)) true o.type).run P w=.ok (.tuple #[.bool false]) w:=by simp[Instr.next,getObj,Sem.run,hb,BP]
    refine fM.D c ⟨_,.tuple #[.bool false],he.symm,?_,⟨_,rfl,⟨_,_,rfl,rfl,rfl⟩⟩⟩;simp only[execOp,ho,hx,eh,bm,fD,ju]
  ·simp[af.D]at he
 ·simp[af.D]at he
end
section
variable{E:bD}{P:Program}{Z:Nat->Prop}{h view:Nat->aj}{β:Nat->bd}{w:World}{s:Nat->aa}{a:Act}{fr:Nat}{o:Oper}{r:di}
def amJ(c:ed E P Z h view β w s a)(ho:o.op=.nilCheck x)(he:(cj E view s fr o).D=some r):fM E P Z h β w a o r:=by
 simp only[cj,ho]at he;have hx:=c.D x;split at he
 all_goals first | (simp[af.D]at he;done) |skip
 all_goals
  rename_i hv;rw[hv]at hx;simp only[af.D,Option.some.injEq]at he
 ·have BU:=hx;obtain⟨b,o',l,hz,_⟩:=hx;exact⟨_,a.eval x,he.symm,by simp[execOp,ho,hz],BU⟩
 ·have BU:=hx;obtain⟨_,hz⟩:=hx;exact⟨_,a.eval x,he.symm,by simp[execOp,ho,hz],BU⟩
 ·have BU:=hx;obtain⟨_,_,_,_,_,_,⟨b,o',hz⟩,_⟩:=hx;exact⟨_,a.eval x,he.symm,by simp[execOp,ho,hz],BU⟩
def dn.aaZ(h:dn P t ty)(hi:ty.c≠ .h):∃d,P.underlying t=some d/\∀ms,d≠ .interface ms:=by
 have h0:=h.Z1;cases hu:P.underlying t with
 |none=>rw[hu]at h0;cases h0
 |some d=>refine⟨d,rfl,λms hd=> ?_⟩;have h1:=h.g;unfold mO at h1;rw[hu,hd]at h1;split at h1<;>simp_all
def amK(c:ed E P Z h view β w s a)(ho:o.op=.makeInterface t x)(he:(cj E view s fr o).D=some r):fM E P Z h β w a o r:=by
 simp only[cj,ho]at he;have hx:=c.D x;split at he
 ·rename_i hc;simp only[au,kr,BB]at hc;simp only[af.D,Option.some.injEq]at he;obtain⟨d,hu,hd⟩:=(c.b.D hc.1).aaZ hc.2;refine⟨_,.iface t (a.eval x),he.symm,?_,⟨_,rfl,hx⟩⟩;cases d<;>first | (exact absurd rfl (hd _)) |simp[execOp,ho,Instr.makeInterface,dR hu]
 ·simp[af.D]at he
def amL(c:ed E P Z h view β w s a){xt:TypeId}{ok:Bool}(ho:o.op=.typeAssert x xt t ok)(he:(cj E view s fr o).D=some r):fM E P Z h β w a o r:=by
 simp only[cj,ho]at he;have hx:=c.D x;split at he
 ·simp[af.D]at he
 ·rename_i hc;simp only[au,kr,BB]at hc;have row:=c.b.D hc.1;obtain⟨d,hu,hd⟩:=row.aaZ hc.2;obtain⟨z,pR,qP,_,_⟩:=row.U (T:=E.a) (w:=w) (O:=aY Z h β) w (bW E.a h β);split at he
  ·rename_i hv;rw[hv]at hx;have hx:a.eval x=.nilIface:=hx;split at he
   ·simp only[af.D,Option.some.injEq]at he;refine⟨_,.tuple #[z,.bool false],he.symm,?_,⟨_,rfl,⟨z,_,rfl,qP,⟨_,_,rfl,rfl,rfl⟩⟩⟩⟩;cases d<;>first | (exact absurd rfl (hd _)) |simp[execOp,ho,Instr.typeAssert,dR hu,hx,pR]
   ·simp[af.D]at he
  ·rename_i u v hv;rw[hv]at hx;obtain⟨y,hx,hy⟩:=hx;split at he
   ·rename_i hb;obtain rfl:=iZ hb;simp only[af.D,Option.some.injEq]at he;refine⟨_,(match ok with |true=>.tuple #[y,.bool true] |false=>y),he.symm,?_,?_⟩
    ·cases ok<;>cases d<;>first | (exact absurd rfl (hd _)) |simp[execOp,ho,Instr.typeAssert,dR hu,hx]
    ·cases ok
     ·exact hy
     ·exact⟨_,rfl,⟨y,_,rfl,hy,⟨_,_,rfl,rfl,rfl⟩⟩⟩
   ·rename_i hb;split at he
    ·simp only[af.D,Option.some.injEq]at he;have bL:u≠t:=λh=>by subst h;rw[gq]at hb;cases hb
     refine⟨_,.tuple #[z,.bool false],he.symm,?_,⟨_,rfl,⟨z,_,rfl,qP,⟨_,_,rfl,rfl,rfl⟩⟩⟩⟩;cases d<;>first | (exact absurd rfl (hd _)) |simp[execOp,ho,Instr.typeAssert,dR hu,hx,pR,bL]
    ·simp[af.D]at he
  ·simp[af.D]at he
end
section
variable{E:bD}{P:Program}{Z:Nat->Prop}{h view:Nat->aj}{β:Nat->bd}{w:World}{s:Nat->aa}{a:Act}{fr:Nat}{o:Oper}{r:di}{next:Act->World->Prop}{Q:Exit->Act->World->Prop}
def mf.D(d:mf E P Z h β w a fr o r)(hc:JA E Z h β w a fr o r next Q):o.wp P a w next Q:=by
 obtain⟨v,u,x,w',β',rfl,hr,hd⟩:=d;have hn:=hc.1 v u x w' β' rfl hd;unfold Oper.wp;rcases hr with hr | ⟨hr,rfl⟩
 ·rw[hr];exact hn
 ·rw[hr];exact hn
def aa0{T:TypeId->bz}{O:Nat->Prop}{R:aa->Value->Prop}:∀(ts:List TypeId){vs:List aa}{l:List Value},aF T w O vs R l->aF T w O (E_ T ts vs) R l
 | [],vs,l,h=>by cases vs<;>exact h
 |t::ts,[],l,h=>h
 |t::ts,v::vs,_,h=>by
  obtain⟨x,r,rfl,h1,h2⟩:=h;refine⟨x,r,rfl,?_,aa0 ts h2⟩;cases hc:(T t).D &&cA (T t) v with
  |true=>rw[au]at hc;exact h1.Fk hc.2
  |false=>exact h1
def amM(c:ed E P Z h view β w s a)(de:∀i,fr<=i->i<fr+64->h i=.c)(hC:∀g,ck E.a E.b P g (E.f g)){f:Operand}(ho:o.op=.call cl)(hf:cl.callee=.value f)
  (he:(cj E view s fr o).D=some r)(hc:JA E Z h β w a fr o r next Q):o.wp P a w next Q:=by
 obtain⟨callee,args,argTypes⟩:=cl;simp only at hf;subst hf;simp only[cj,ho]at he;have hx:=c.D f;split at he
 ·rename_i g p q hv;rw[hv]at hx;obtain⟨p',q',BI,hp,hq⟩:=hx;have cN:aF E.a w (aY Z h β) (p++E_ E.a argTypes.toList (args.toList.map (aN E s))++q) (bW E.a h β) (p'++args.map a.eval++q').toList:=by have:=(hp.U (aa0 argTypes.toList (c.I args.toList))).U hq;simpa using this
  have key:=amG c.b c.d c.e de (hC g) cN he;have bm:(execOp a.eval o).run P w=(callFunc g (p'++args.map a.eval++q')).run P w:=by simp[execOp,ho,resolve,BI,Deferred.ofValue,invoke]
  unfold Oper.wp;rw[bm];rcases key with⟨k1,k2⟩ | ⟨x,w',k1,v,u,β',rfl,hd⟩
  ·rw[k1,Oper.upon_enter];refine k2.mono (λe w' eC=> ?_);cases e with
   |returned x=>obtain⟨v,u,β',rfl,hd⟩:=eC;exact hc.1 v u x w' β' rfl hd
   |panicked chain=>obtain⟨v,u,x,β',rfl,gV,rfl,hd⟩:=eC;exact hc.2 v u x w' β' rfl gV hd
   |outgrown=>exact eC.elim
  ·rw[k1,Oper.upon_value];exact hc.1 v u x w' β' rfl hd
 ·simp[af.D]at he
def amN(c:ed E P Z h view β w s a)(ho:o.op=.panic x)(he:(cj E view s fr o).D=some r)(hc:JA E Z h β w a fr o r next Q):o.wp P a w next Q:=by
 simp only[cj,ho]at he;have hx:=c.D x;split at he
 ·rename_i t v hv;split at he
  ·rename_i gV;simp only[af.D,Option.some.injEq]at he;rw[hv]at hx;have BU:=hx;obtain⟨y,kA,hy⟩:=hx;unfold Oper.wp;have bm:(execOp a.eval o).run P w=.halt (.panic (a.eval x)) w:=by rw[kA];simp[execOp,ho,kA,Instr.panic,goPanic]
   rw[bm];exact hc.2 _ _ _ w β he.symm (by simpa[aa.gx,aa.dP] using gV) ⟨c.d,dF.D,BU,λi hi=>absurd rfl hi⟩
  ·simp[af.D]at he
 ·simp[af.D]at he
def amO(c:ed E P Z h view β w s a)(hx:x≠ .const (.slice none 0 0))(ho:o.op=.assign x)(he:(cj E view s fr o).D=some r):fM E P Z h β w a o r:=by
 have he':(af.g (di.a (aN E s x) [])).D=some r:=by
  cases x with
  |const v=>
   cases v with
   |slice ad n cp=>
    cases ad with
    |none=>
     cases n with
     |zero=>
      cases cp with
      |zero=>exact absurd rfl hx
      |succ cp=>simpa only[cj,ho] using he
     |succ n=>simpa only[cj,ho] using he
    |some ad=>simpa only[cj,ho] using he
   |_=>simpa only[cj,ho] using he
  |_=>simpa only[cj,ho] using he
 simp only[af.D,Option.some.injEq]at he';exact⟨_,_,he'.symm,by simp[execOp,ho],c.D x⟩
def aa1(c:ed E P Z h view β w s a)(de:∀i,fr<=i->i<fr+64->h i=.c)(hC:∀g,ck E.a E.b P g (E.f g))
  (he:(cj E view s fr o).D=some r)(hc:JA E Z h β w a fr o r next Q):o.wp P a w next Q:=by
 have vq:h fr=.c:=de fr (bj _) ab;cases ho:o.op with
 |move x=>exact((aae c ho he).D c).D hc
 |assign x=>
  by_cases hx:x=.const (.slice none 0 0)
  ·subst hx;exact(al' c vq ho he).D hc
  ·exact((amO c hx ho he).D c).D hc
 |pick x y z=>exact((aaf c ho he).D c).D hc
 |alloc t=>exact(al6 c vq ho he).D hc
 |box t x=>exact(al7 c vq ho he).D hc
 |build t parts=>exact((al2 c ho he).D c).D hc
 |buildSlice t len parts=>exact(ama c vq ho he).D hc
 |load t x=>exact((aag c ho he).D c).D hc
 |store t x y=>
  cases hi:aN E s x with
  |e i j=>exact(amd c hi ho he).D hc
  |H i g k j=>exact(amh c hi ho he).D hc
  |_=>simp[cj,ho,hi,af.D]at he
 |binOp op t x y ty=>exact((alS c ho he).D c).D hc
 |unOp op t x=>exact((aah c ho he).D c).D hc
 |convert src dst x=>exact((al0 c ho he).D c).D hc
 |makeFunc fn x y=>
  cases fn with
  |func f=>exact((alT c ho he).D c).D hc
  |_=>simp[cj,ho,af.D]at he
 |makeMap t x=>
  cases x with
  |none=>exact(al8 c vq ho he).D hc
  |some x=>simp[cj,ho,af.D]at he
 |makeSlice t x y=>exact(amb c vq ho he).D hc
 |slice t x lo hi mx=>
  cases mx with
  |none=>exact((alV c ho he).D c).D hc
  |some x=>
   cases lo with
   |some l=>simp[cj,ho,af.D]at he
   |none=>
    cases hi with
    |none=>simp[cj,ho,af.D]at he
    |some y=>exact((alW c ho he).D c).D hc
 |fieldAddr t x f=>exact((aam c ho he).D c).D hc
 |field t x f=>exact((alY c ho he).D c).D hc
 |indexAddr t x y=>exact((alZ c ho he).D c).D hc
 |index t x y=>exact((alX c ho he).D c).D hc
 |lookup t x y ok=>exact((al5 c ho he).D c).D hc
 |mapUpdate t m k x=>exact(amr c ho he).D hc
 |extract x n=>exact((alQ c ho he).D c).D hc
 |call cl=>
  cases jx:cl.callee with
  |builtin b=>exact(amD c vq ho jx he).D hc
  |value f=>exact amM c de hC ho jx he hc
  |invoke rc n=>simp[cj,ho,jx,af.D]at he
 |panic x=>exact amN c ho he hc
 |range t x=>exact(amH c vq ho he).D hc
 |next x b=>
  cases b with
  |true=>exact(amI c ho he).D hc
  |false=>simp[cj,ho,af.D]at he
 |nilCheck x=>exact((amJ c ho he).D c).D hc
 |makeInterface t x=>exact((amK c ho he).D c).D hc
 |typeAssert x xt t ok=>exact((amL c ho he).D c).D hc
 |_=>simp[cj,ho,af.D]at he
end
def ua{f:Nat->α}{x:α}(h:f i=x):bO f i x=f:=by
 funext j
 by_cases hj:j=i
 ·subst hj;rw[dt,h]
 ·rw[fj _ _ hj]
def Pj{α:Type}:∀(l:List (Nat×α))(f g:Nat->α)(k:Nat),(∃p∈l,p.1=k)->bU f l k=bU g l k
 | [],_,_,_,h=>by simp at h
 | (i,x)::l,f,g,k,h=>by
  by_cases hc:∃p∈l,p.1=k
  ·exact Pj l _ _ k hc
  ·obtain⟨p,hp,he⟩:=h;rcases List.mem_cons.1 hp with rfl |hp
   ·simp only at he;subst he;have hn:∀p∈l,p.1≠i:=λp hp he=>hc ⟨p,hp,he⟩;rw[bU,bU,sw l _ i hn,sw l _ i hn,dt,dt]
   ·exact absurd ⟨p,hp,he⟩ hc
def amP(a b:List (Nat×α))(f:Nat->α)(h:∀p∈a,∀q∈b,p.1≠q.1):bU (bU f a) b=bU (bU f b) a:=by
 funext k
 by_cases hc:∃p∈a,p.1=k
 ·obtain⟨p,hp,he⟩:=hc;rw[sw b _ k (λq hq he'=>h p hp q hq (he.trans he'.symm))];exact Pj a _ _ k ⟨p,hp,he⟩
 ·have hn:∀p∈a,p.1≠k:=λp hp he=>hc ⟨p,hp,he⟩;rw[sw a _ k hn];by_cases hd:∃q∈b,q.1=k
  ·exact Pj b _ _ k hd
  ·have hm:∀p∈b,p.1≠k:=λp hp he=>hd ⟨p,hp,he⟩;rw[sw b _ k hm,sw b _ k hm,sw a _ k hn]
def amQ{s:Nat->aa}{d e:Option Nat}{u:aa}(h:∀x,d=some x->e≠some x):iO (iO s d v) e u=iO (iO s e u) d v:=by
 cases d with
 |none=>rfl
 |some d=>
  cases e with
  |none=>rfl
  |some e=>
   have bL:d≠e:=λhe=>h d rfl (by rw[he]);funext k
   show bO (bO s d v) e u k=bO (bO s e u) d v k;by_cases h1:k=d
   ·subst h1;rw[dt,fj _ _ bL,dt]
   ·by_cases h2:k=e
    ·subst h2;rw[dt,fj _ _ h1,dt]
    ·rw[fj _ _ h2,fj _ _ h1,fj _ _ h1,fj _ _ h2]
section
variable{E:bD}{hd:iP}{ops:List Oper}{base:Nat}
def Fz(ops:List Oper)(o:Oper)(slot:Nat->aa):Option Bool:=match o.guard with
 |none=>some true
 |some (i,want)=>match(ops[i]?).bind (·.dst)with
  |some d=>(match slot d with | .p b=>some (match want with |true=>b |false=> !b) | .q []=>some false |_=>none)
  |none=>none
def FA(E:bD)(hd:iP)(ops:List Oper)(base j:Nat)(o:Oper)(slot:Nat->aa)(ob:Nat->aj):Option (aa×q6):=match(cj E (jR true hd ops base j o ob) (oz true ops o slot) (base+64*j) o).D with
 |some (.a v u)=>(match I8 E hd j o (base+64*j) (jR true hd ops base j o ob) u with |true=>some (v,u) |false=>none)
 |_=>none
def pw(E:bD)(hd:iP)(ops:List Oper)(base j:Nat)(o:Oper)(slot:Nat->aa)(ob:Nat->aj):Option (aa×q6):=match Fz ops o slot with
 |none=>none
 |some false=>some (.q [],[])
 |some true=>FA E hd ops base j o slot ob
def Pk{α β:Type}:∀{t:af α}{f:α->af β},t.D=none->(t.U f).D=none
 | .g a,f,h=>by simp[af.D]at h
 | .c true t e,f,h=>Pk (t:=t) h
 | .c false t e,f,h=>Pk (t:=e) h
 | .d,f,h=>rfl
def Pl(o:Oper)(s:bu)(j:Nat):(tZ E true hd ops base j o s).D=(FA E hd ops base j o s.b s.a).map λp=>gA.a {s with b:=iO s.b o.dst p.1,a:=bU s.a p.2}:=by
 unfold tZ FA;rw[Fb];cases hq:(cj E (jR true hd ops base j o s.a) (oz true ops o s.b) (base+64*j) o).D with
 |none=>rw[Pk hq];rfl
 |some x=>
  rw[zY hq];cases x with
  |a v u=>simp only[zm,HO];cases I8 E hd j o (base+64*j) (jR true hd ops base j o s.a) u<;>rfl
  |b v u=>rfl
def z7(ho:ops[j]? =some o)(s:bu):(nD E true hd ops base s j).D=(pw E hd ops base j o s.b s.a).map λp=>gA.a {s with b:=iO s.b o.dst p.1,a:=bU s.a p.2}:=by
 unfold nD pw Fz;rw[ho];simp only;cases hg:o.guard with
 |none=>simp only;exact Pl o s j
 |some p=>
  obtain⟨i,want⟩:=p;simp only;cases hd:(ops[i]?).bind (·.dst)with
  |none=>rfl
  |some d=>
   simp only;cases hs:s.b d with
   |p b=>
    simp only[af.D];cases want<;>cases b<;>simp only[zm,u_,af.D]
    ·rw[ua hs];exact Pl o s j
    ·rw[ua hs];rfl
    ·rw[ua hs];rfl
    ·rw[ua hs];exact Pl o s j
   |q vs=>cases vs<;>rfl
   |_=>rfl
def aa2{Ie:Nat->aa}{ob':Nat->aj}(h1:∀t∈pk ops o,slot t=Ie t)(h2:jR true hd ops base j o ob=jR true hd ops base j o ob'):pw E hd ops base j o slot ob=pw E hd ops base j o Ie ob':=by
 have hs:oz true ops o slot=oz true ops o Ie:=by
  funext t
  show vM (pk ops o) slot t=vM (pk ops o) Ie t;unfold vM;cases hc:(pk ops o).contains t with
  |true=>exact h1 t (by simpa using hc)
  |false=>rfl
 have hg:Fz ops o slot=Fz ops o Ie:=by
  unfold Fz;cases hg:o.guard with
  |none=>rfl
  |some p=>
   obtain⟨i,want⟩:=p;simp only;cases hd:(ops[i]?).bind (·.dst)with
   |none=>rfl
   |some d=>simp only;rw[h1 d (by unfold pk;rw[hg];simp[hd])]
 unfold pw FA;rw[hg,hs,h2]
def aa3(h:pw E hd ops base j o slot ob=some (v,u)):∀p∈u,(base+64*j<=p.1/\p.1<base+64*j+64)\/(vL E.e o=true/\pq o=false/\(jR true hd ops base j o ob p.1).D=true/\Fc (hd.a j) p.1=true):=by
 unfold pw at h;split at h
 ·cases h
 ·simp only[Option.some.injEq,Prod.mk.injEq]at h;intro p hp;rw[<-h.2]at hp;cases hp
 ·unfold FA at h;split at h
  ·rename_i v' u' hq;split at h
   ·rename_i bH;simp only[Option.some.injEq,Prod.mk.injEq]at h;obtain⟨rfl,rfl⟩:=h;intro p hp;have own:∀q:Nat×aj,(Nat.ble (base+64*j) q.1 &&Nat.blt q.1 (base+64*j+64))=true->base+64*j<=q.1/\q.1<base+64*j+64:=λq hq=>by rw[au]at hq;exact⟨ft hq.1,ft hq.2⟩
    unfold I8 at bH;rw[nh]at bH;rcases bH with bH |bH
    ·unfold ZP at bH;rw[dS]at bH;exact .inl (own p (bH p hp))
    ·simp only[au,dS,kr]at bH;have h1:=bH.2 p hp;rw[nh]at h1;rcases h1 with h1 |h1
     ·exact .inl (own p h1)
     ·rw[au]at h1;exact .inr ⟨bH.1.1,bH.1.2,h1⟩
   ·cases h
  ·cases h
def amR(ha:(xO base p hid h k).D=true):(k<base\/(k-base)/64∈p)/\k∉hid:=by
 unfold xO at ha;split at ha
 ·rename_i hc;rw[au,nh]at hc;obtain⟨hc,hh⟩:=hc;refine⟨?_,by simpa using hh⟩;rcases hc with hc |hc
  ·exact .inl (ft hc)
  ·exact .inr (by simpa using hc)
 ·cases ha
def amS(hh:∀k,(k<base\/(k-base)/64∈p)->k∉hid->h k=h' k):xO base p hid h=xO base p hid h':=by
 funext k
 unfold xO;cases hc:((Nat.blt k base ||p.contains ((k-base)/64)) && !hid.contains k)with
 |false=>rfl
 |true=>
  simp only;rw[au,nh]at hc;obtain⟨hc,hd⟩:=hc;refine hh k ?_ (by simpa using hd);rcases hc with hc |hc
  ·exact .inl (ft hc)
  ·exact .inr (by simpa using hc)
def aa4(h:zR hd i j=true)(hw:Fc (hd.a i) k=true):k∈hd.b j:=by
 unfold zR at h;unfold Fc at hw;cases hq:hd.a i with
 |none=>rw[hq]at h;cases h
 |some l=>rw[hq]at h hw;simp only[dS]at h;have:=h k (by simpa using hw);simpa using this
def aa5{ok:Oper}(NF:k∉gX ops j)(hb:pq o=true\/(vL E.e ok=false\/pq ok=true\/zR hd k j=true))
  (hu:∀p∈u,(base+64*k<=p.1/\p.1<base+64*k+64)\/(vL E.e ok=true/\pq ok=false/\(jR true hd ops base k ok ob p.1).D=true/\Fc (hd.a k) p.1=true)):
  jR true hd ops base j o (bU ob u)=jR true hd ops base j o ob:=by
 unfold jR;cases j6:pq o with
 |true=>rfl
 |false=>
  simp only;refine amS (λi hi hh=>sw u ob i (λp hp he=> ?_));rcases hu p hp with h1 | ⟨h1,h2,_,h3⟩
  ·subst he;rcases hi with hi |hi
   ·omega
   ·have:(p.1-base)/64=k:=ab;rw[this]at hi;exact NF hi
  ·rcases hb with hb |hb |hb |hb
   ·rw[j6]at hb;cases hb
   ·rw[h1]at hb;cases hb
   ·rw[h2]at hb;cases hb
   ·exact hh (he▸aa4 hb h3)
def Pm{mode:FuncId->List Bool}{x y:Oper}(h:zS mode hd ops i j x y=true):(∀d,x.dst=some d->d∉pk ops y/\y.dst≠some d)/\(∀d,y.dst=some d->d∉pk ops x)/\(((vL mode x=false\/zR hd i j=true)/\(vL mode y=false\/zR hd j i=true))\/pq x=true\/pq y=true):=by
 unfold zS at h;simp only[au]at h;obtain⟨⟨h1,h2⟩,h3⟩:=h;refine⟨λd hd=> ?_,λd hd=> ?_,?_⟩
 ·rw[hd]at h1;simp at h1;exact⟨by simpa using h1.1,by simpa using h1.2⟩
 ·rw[hd]at h2;simpa using h2
 ·simp only[nh,au,kr]at h3;rcases h3 with(h3 |h3) |h3
  ·exact .inl h3
  ·exact .inr (.inl h3)
  ·exact .inr (.inr h3)
def amT{y:Nat}{oi oy:Oper}(hi:ops[i]? =some oi)(hy:ops[y]? =some oy)(bL:y≠i)(h1:y∉gX ops i)(h2:i∉gX ops y)(aKy:zS E.e hd ops y i oy oi=true){rest:List Nat}{x:gA}
  (h:(c8 E true hd ops base (y::i::rest) s).D=some x):(c8 E true hd ops base (i::y::rest) s).D=some x:=by
 obtain⟨d1,d2,d3⟩:=Pm aKy;rw[c8]at h;obtain⟨g1,e1,h⟩:=cm h;rw[z7 hy]at e1;cases r1:pw E hd ops base y oy s.b s.a with
 |none=>rw[r1]at e1;cases e1
 |some p1=>
  obtain⟨v,u⟩:=p1;rw[r1]at e1;simp only[jt,Option.some.injEq]at e1;subst e1;simp only at h;rw[c8]at h;obtain⟨g2,e2,h⟩:=cm h;rw[z7 hi]at e2;cases r2:pw E hd ops base i oi (iO s.b oy.dst v) (bU s.a u)with
  |none=>simp only at e2;rw[r2]at e2;cases e2
  |some p2=>
   obtain⟨v2,u2⟩:=p2;simp only at e2;rw[r2]at e2;simp only[jt,Option.some.injEq]at e2;subst e2;simp only at h;have ajL:=aa3 r1;have r2':pw E hd ops base i oi s.b s.a=some (v2,u2):=by
    rw[<-r2];refine aa2 (λt ht=> ?_) ?_
    ·cases hd:oy.dst with
     |none=>rfl
     |some d=>have bL:t≠d:=λhe=>(d1 d hd).1 (by rw[<-he];exact ht);exact(fj s.b v bL).symm
    ·refine(aa5 (ok:=oy) h1 ?_ ajL).symm;rcases d3 with d3 |d3 |d3
     ·rcases d3.1 with d3 |d3
      ·exact .inr (.inl d3)
      ·exact .inr (.inr (.inr d3))
     ·exact .inr (.inr (.inl d3))
     ·exact .inl d3
   have ajM:=aa3 r2';have r1':pw E hd ops base y oy (iO s.b oi.dst v2) (bU s.a u2)=some (v,u):=by
    rw[<-r1];refine aa2 (λt ht=> ?_) ?_
    ·cases hd:oi.dst with
     |none=>rfl
     |some d=>have bL:t≠d:=λhe=>d2 d hd (by rw[<-he];exact ht);exact fj s.b v2 bL
    ·refine aa5 (ok:=oi) h2 ?_ ajM;rcases d3 with d3 |d3 |d3
     ·rcases d3.2 with d3 |d3
      ·exact .inr (.inl d3)
      ·exact .inr (.inr (.inr d3))
     ·exact .inl d3
     ·exact .inr (.inr (.inl d3))
   have aKz:∀p∈u,∀q∈u2,p.1≠q.1:=by
    have shown:∀(j:Nat)(o:Oper)(k:Nat),pq o=false->(jR true hd ops base j o s.a k).D=true->(k<base\/(k-base)/64∈gX ops j)/\k∉hd.b j:=λj o k hb ha=>by unfold jR at ha;rw[hb]at ha;exact amR ha
    intro p hp q hq he;rcases ajL p hp with a1 | ⟨a1,a2,a3,a4⟩<;>rcases ajM q hq with b1 | ⟨b1,b2,b3,b4⟩
    ·omega
    ·rcases(shown i oi q.1 b2 b3).1 with c |c
     ·omega
     ·have:(q.1-base)/64=y:=ab;rw[this]at c;exact h1 c
    ·rcases(shown y oy p.1 a2 a3).1 with c |c
     ·omega
     ·have:(p.1-base)/64=i:=ab;rw[this]at c;exact h2 c
    ·rcases d3 with d3 |d3 |d3
     ·rcases d3.1 with d3 |d3
      ·rw[d3]at a1;cases a1
      ·exact(shown i oi q.1 b2 b3).2 (he▸aa4 d3 a4)
     ·rw[d3]at a2;cases a2
     ·rw[d3]at b2;cases b2
   rw[c8];have f1:(nD E true hd ops base s i).D=some (gA.a {s with b:=iO s.b oi.dst v2,a:=bU s.a u2}):=by rw[z7 hi,r2'];rfl
   rw[zY f1];simp only;rw[c8];have f2:(nD E true hd ops base {s with b:=iO s.b oi.dst v2,a:=bU s.a u2} y).D=some (gA.a {s with b:=iO (iO s.b oi.dst v2) oy.dst v,a:=bU (bU s.a u2) u}):=by rw[z7 hy];simp only;rw[r1'];rfl
   rw[zY f2];simp only;rw[amQ (λd hd=>(d1 d hd).2),amP u u2 s.a aKz]at h;exact h
end
structure fR where
 a:Bool
 c:List Deferred
variable{d0:fR}
def fR.U(d:fR):Prop:=∀x∈d.c,∀D,x.target≠ .collected D
def gg(lo:Nat)(d0:fR)(h:Nat->aj)(β:Nat->bd)(w:World)(ds:List Deferred):Prop:=
 d0.U/\∃l:List Nat,ds=l.map (λD=>({target:=.collected D,args:= #[]}:Deferred))++d0.c/\(d0.a=false->l=[])/\l.Nodup/\∀D∈l,lo<=D/\w.heap[D]? =some (.deferred (some []))/\∀i,cQ h β i->(β i).a≠D
def gg.I(hd:d0.U):gg lo d0 h β w d0.c:=⟨hd,[],rfl,λ_=>rfl,Ew,aB⟩
def fR.I{b:Bool}:(fR.mk b []).U:=λx hx=>by cases hx
def gg.U(m:gg lo d0 h β w ds)(s:dF h β w h' β' w'):gg lo d0 h' β' w' ds:=by
 obtain⟨hb,l,e,hm,hn,h⟩:=m;refine⟨hb,l,e,hm,hn,λD hD=> ?_⟩;obtain⟨h0,h1,h2⟩:=h D hD;have cC:=(Array.getElem?_eq_some_iff.1 h1).1;refine⟨h0,(s.f D cC h2).trans h1,λi mi he=> ?_⟩;rcases s.c i mi with⟨k,mk,ek⟩ |ek
 ·exact h2 k mk (ek.trans he)
 ·omega
def gg.amU(m:gg lo d0 h β w ds)(hh:w'.heap=w.heap):gg lo d0 h β w' ds:=by obtain⟨hb,l,e,hm,hn,h⟩:=m;exact⟨hb,l,e,hm,hn,λD hD=>by rw[hh];exact h D hD⟩
def gg.amV(m:gg lo d0 h β w ds){δ:Nat->Nat->Nat}:gg lo d0 (jF h δ ids) (eV β ids) w ds:=by obtain⟨hb,l,e,hm,hn,h⟩:=m;refine⟨hb,l,e,hm,hn,λD hD=>⟨(h D hD).1,(h D hD).2.1,λk mk he=> ?_⟩⟩;obtain⟨i,_,mi,ei⟩:=nE mk;exact(h D hD).2.2 i mi (ei.symm.trans he)
structure bA(E:bD)(Z:Nat->Prop)(n lo:Nat)(d0:fR)(s:bu)(β:Nat->bd)(a:Act)(w:World):Prop where
 f:cY E.a E.b Z s.a β w
 m:qd E.a w (aY Z s.a β) (bW E.a s.a β) s.b a
 p:a.tmps.size=n
 z:gg lo d0 s.a β w a.defers
section
variable{E:bD}{P:Program}{Z:Nat->Prop}{n lo:Nat}{d0:fR}{s:bu}{β:Nat->bd}{w:World}{a:Act}{ops:Array Oper}{base:Nat}{next:Act->World->Prop}{Q:Exit->Act->World->Prop}
def FB(a:Act){x:Value}(hd:∀t,d=some t->t<a.tmps.size)(t:Nat):(a.put d x).tmps.getD t undef=if d=some t then x else a.tmps.getD t undef:=by
 cases d with
 |none=>simp[Act.put]
 |some d=>
  have:=hd d rfl;simp only[Act.put,fh];rw[BA];by_cases pQ:d=t
  ·subst pQ;simp[this]
  ·simp[pQ]
def fS(a:Act)(d:Option Tmp)(x:Value):(a.put d x).tmps.size=a.tmps.size:=by cases d<;>simp[Act.put]
def jT(a:Act)(d:Option Tmp)(x:Value):(a.put d x).defers=a.defers:=by cases d<;>rfl
def amW(s:Nat->aa)(d:Option Nat)(v:aa)(t:Nat):iO s d v t=if d=some t then v else s t:=by
 cases d with
 |none=>simp[iO]
 |some d=>
  by_cases pQ:d=t
  ·subst pQ;simp[iO,dt]
  ·simp[iO,fj s v (lY pQ),pQ]
def qd.D{s:Nat->aa}(hs:qd T w O R s a){x:Value}(hd:∀t,d=some t->t<a.tmps.size)(hr:ax T w O v R x):qd T w O R (iO s d v) (a.put d x):=by
 intro t;rw[FB a hd,amW];by_cases h:d=some t
 ·rw[if_pos h,if_pos h];exact hr
 ·rw[if_neg h,if_neg h];exact hs t
def bA.aa6(r:bA E Z n lo d0 s β a w)(hd:∀t,d=some t->t<n):bA E Z n lo d0 {s with b:=iO s.b d (.q [])} β (a.put d undef) w:=
 ⟨r.f,r.m.D (λt ht=>by rw[r.p];exact hd t ht) ⟨#[],rfl,rfl⟩,by rw[fS];exact r.p,by rw[jT];exact r.z⟩
def aa7(E:bD)(Z:Nat->Prop)(n lo:Nat)(d0:fR)(s:bu)(β:Nat->bd)(a:Act)(w:World)(fr:Nat)(x:gA)(next:Act->World->Prop)(Q:Exit->Act->World->Prop):Prop:=
 (∀s' β' a' w',x=.a s'->bA E Z n lo d0 s' β' a' w'->dF s.a β w s'.a β' w'->sr s.a s'.a fr->s'.c=s.c->next a' w')/\
 (∀v s' β' w' y,x=.b v s'->v.gx=true->bA E Z n lo d0 s' β' a w'->dF s.a β w s'.a β' w'->ax E.a w' (aY Z s'.a β') v bh y->sr s.a s'.a fr->s'.c=s.c->Q (.panic [{v:=y,recovered:=false}]) a w')
def aa8(hT:cH P E.a)(hC:∀g,ck E.a E.b P g (E.f g))(r:bA E Z n lo d0 s β a w)(hd:∀t,o.dst=some t->t<n)
  (de:∀i,base+64*j<=i->i<base+64*j+64->s.a i=.c){x:gA}(he:(tZ E draw hn ol base j o s).D=some x)(hA:aa7 E Z n lo d0 s β a w (base+64*j) x next Q):o.wp P a w next Q:=by
 unfold tZ at he;rw[Fb]at he;obtain⟨rs,h1,h2⟩:=cm he;have Yk:pt (jR draw hn ol base j o s.a) s.a:=by
  intro i;unfold jR;cases draw with
  |false=>exact .inr rfl
  |true=>
   simp only;cases pq o with
   |true=>exact .inl rfl
   |false=>
    simp only[xO];split
    ·exact .inr rfl
    ·exact .inl rfl
 have Yl:qd E.a w (aY Z s.a β) (bW E.a s.a β) (oz draw ol o s.b) a:=by
  intro t;unfold oz;cases draw with
  |false=>exact r.m t
  |true=>
   simp only[vM];split
   ·exact r.m t
   ·exact trivial
 refine aa1 (view:=jR draw hn ol base j o s.a) (s:=oz draw ol o s.b) ⟨hT,r.f,Yk,Yl⟩ de hC h1 ⟨λv u y w' β' hr f_=> ?_,λv u y w' β' hr gV f_=> ?_⟩
 ·subst hr;simp only at h2;split at h2
  ·simp only[af.D,Option.some.injEq]at h2;refine hA.1 _ β' (a.put o.dst y) w' h2.symm ⟨f_.b,?_,by rw[fS];exact r.p,by rw[jT];exact r.z.U f_.a⟩ f_.a f_.d rfl;refine qd.D (λt=> ?_) (λt ht=>by rw[r.p];exact hd t ht) f_.c;exact f_.a.V r.f (r.m t)
  ·simp[af.D]at h2
 ·subst hr;simp only at h2;cases draw with
  |true=>simp[af.D]at h2
  |false=>simp only[af.D,Option.some.injEq]at h2;refine hA.2 v _ β' w' y h2.symm gV ⟨f_.b,λt=>f_.a.V r.f (r.m t),r.p,r.z.U f_.a⟩ f_.a (q9 f_.c gV) f_.d rfl
def Pn(hs:qd T w O R sl a){d:Nat}(hd:(ops[i]?).bind (λo:Oper=>o.dst)=some d)(bE:d<a.tmps.size):
  (∀b,sl d=.p b->yielded ops a.tmps i=some b)/\(sl d=.q []->yielded ops a.tmps i=none):=by
 have h1:((ops[i]?).bind (·.dst)).bind (a.tmps[·]?)=some (a.tmps.getD d undef):=by rw[hd];simp[fh,bE]
 refine⟨λb hb=> ?_,λhb=> ?_⟩
 ·have:=hs d;rw[hb]at this;unfold yielded;rw[h1,show a.tmps.getD d undef=.bool b from this]
 ·have:=hs d;rw[hb]at this;obtain⟨arr,h2,h3⟩:=this;unfold yielded;rw[h1,h2]
def FC(hT:cH P E.a)(hC:∀g,ck E.a E.b P g (E.f g))(r:bA E Z n lo d0 s β a w)(hd:∀(i:Nat)(t:Tmp),(ops[i]?).bind (λo:Oper=>o.dst)=some t->t<n)
  (de:∀i,base+64*j<=i->i<base+64*j+64->s.a i=.c){x:gA}(he:(nD E draw hn ops.toList base s j).D=some x)(hA:aa7 E Z n lo d0 s β a w (base+64*j) x next Q):wpOp P ops Q j next a w:=by
 unfold nD at he;unfold wpOp;rw[fu]at he;cases ho:ops[j]? with
 |none=>rw[ho]at he;simp only[af.D,Option.some.injEq]at he;simp only;exact hA.1 s β a w he.symm r dF.D (λi hi=>absurd rfl hi) rfl
 |some o=>
  rw[ho]at he;simp only at he⊢;have Ig:∀t,o.dst=some t->t<n:=λt ht=>hd j t (by rw[ho];exact ht);have skip:∀(s':bu),s'.a=s.a->s'.b=s.b->s'.c=s.c->x=.a {s' with b:=iO s'.b o.dst (.q [])}->next (a.put o.dst undef) w:=by rintro⟨sl,ob,nx⟩ h1 h2 h3 h4;simp only at h1 h2 h3;subst h1 h2 h3;exact hA.1 _ β _ w h4 (r.aa6 Ig) dF.D (λi hi=>absurd rfl hi) rfl
  cases hg:o.guard with
  |none=>
   rw[hg]at he;simp only at he;have hw:Region.wanted o (yielded ops a.tmps)=true:=by simp[Region.wanted,hg]
   rw[if_pos hw];exact .inl (aa8 hT hC r Ig de he hA)
  |some p=>
   obtain⟨i,want⟩:=p;rw[hg]at he;simp only at he;cases l_:(ops.toList[i]?).bind (·.dst)with
   |none=>rw[l_]at he;simp[af.D]at he
   |some d=>
    rw[l_]at he;simp only at he;rw[fu]at l_;obtain⟨y1,y2⟩:=Pn (ops:=ops) r.m l_ (by rw[r.p];exact hd i d l_);split at he
    ·rename_i b hb;have hy:=y1 b hb;have yes:b=want->(tZ E draw hn ops.toList base j o s).D=some x->(if Region.wanted o (yielded ops a.tmps)=true then o.wp P a w next Q\/o.asks P a w/\LetsOut Q else next (a.put o.dst undef) w):=λxz he=>by
      have hw:Region.wanted o (yielded ops a.tmps)=true:=by simp[Region.wanted,hg,hy,xz]
      rw[if_pos hw];exact .inl (aa8 hT hC r Ig de he hA)
     have no:b= !want->x=.a {s with b:=iO s.b o.dst (.q [])}->(if Region.wanted o (yielded ops a.tmps)=true then o.wp P a w next Q\/o.asks P a w/\LetsOut Q else next (a.put o.dst undef) w):=λxz hx=>by
      have hw:¬Region.wanted o (yielded ops a.tmps)=true:=by rw[Region.wanted,hg];simp only[hy,xz];cases want<;>simp
      rw[if_neg hw];exact skip s rfl rfl rfl hx
     cases want<;>cases b<;>simp only[zm,u_,af.D,ua hb]at he
     ·exact yes rfl he
     ·exact no rfl (by simpa using he.symm)
     ·exact no rfl (by simpa using he.symm)
     ·exact yes rfl he
    ·rename_i hb;have hy:=y2 hb;simp only[af.D,Option.some.injEq]at he;have hw:¬Region.wanted o (yielded ops a.tmps)=true:=by simp[Region.wanted,hg,hy]
     rw[if_neg hw];exact skip s rfl rfl rfl he.symm
    ·simp[af.D]at he
end
section
variable{E:bD}{P:Program}{Z:Nat->Prop}{n lo:Nat}{d0:fR}{ops:Array Oper}{base:Nat}{Q:Exit->Act->World->Prop}
def gN(base j i:Nat):Prop:=base+64*j<=i/\i<base+64*j+64
def amX(E:bD)(Z:Nat->Prop)(n lo:Nat)(d0:fR)(base:Nat)(s:bu)(β:Nat->bd)(w:World)(l:List Nat)(x:gA)(Q:Exit->Act->World->Prop):Prop:=
 (∀s' β' a' w',x=.a s'->bA E Z n lo d0 s' β' a' w'->dF s.a β w s'.a β' w'->(∀i,s.a i=.c->(∀j∈l,¬gN base j i)->s'.a i=.c)->s'.c=s.c->Q .normal a' w')/\
 (∀v s' β' a' w' y,x=.b v s'->v.gx=true->bA E Z n lo d0 s' β' a' w'->dF s.a β w s'.a β' w'->ax E.a w' (aY Z s'.a β') v bh y->(∀i,s.a i=.c->(∀j∈l,¬gN base j i)->s'.a i=.c)->s'.c=s.c->Q (.panic [{v:=y,recovered:=false}]) a' w')
def rh(ht:sr h h' (base+64*j))(hd:h i=.c)(hi:¬gN base j i):h' i=.c:=by
 by_cases he:h' i=h i
 ·rw[he];exact hd
 ·rcases ht i he with h1 |h1
  ·rw[hd]at h1;cases h1
  ·exact absurd h1 hi
def FD(h1:gN base j i)(h2:gN base k i):j=k:=by unfold gN at h1 h2;omega
def JB(hT:cH P E.a)(hC:∀g,ck E.a E.b P g (E.f g)){draw:Bool}{hn:iP}(hd:∀(i:Nat)(t:Tmp),(ops[i]?).bind (λo:Oper=>o.dst)=some t->t<n):
  ∀(l:List Nat)(s:bu)(β:Nat->bd)(a:Act)(w:World)(x:gA),bA E Z n lo d0 s β a w->l.Nodup->(∀j∈l,∀i,gN base j i->s.a i=.c)->(c8 E draw hn ops.toList base l s).D=some x->amX E Z n lo d0 base s β w l x Q->wpOps P ops Q l a w
 | [],s,β,a,w,x,r,_,_,he,hA=>by simp only[c8,af.D,Option.some.injEq]at he;exact hA.1 s β a w he.symm r dF.D (λi hi _=>hi) rfl
 |j::l,s,β,a,w,x,r,cP,ec,he,hA=>by
  rw[c8]at he;obtain⟨x1,h1,h2⟩:=cm he;rw[wpOps_cons];rw[tB]at cP;refine FC hT hC r hd (λi h3 h4=>ec j aB i ⟨h3,h4⟩) h1 ⟨λs1 β1 a1 w1 hx r1 st1 t1 n1=> ?_,λv s1 β1 w1 y hx gV r1 st1 hy t1 n1=> ?_⟩
  ·subst hx;simp only at h2;refine JB hT hC hd l s1 β1 a1 w1 x r1 cP.2 (λk hk i hi=>rh t1 (ec k (by simp[hk]) i hi) (λhj=>cP.1 (by rw[FD hj hi];exact hk))) h2 ⟨λs' β' a' w' hx r' st' d' n'=> ?_,λv s' β' a' w' y hx gV r' st' hy d' n'=> ?_⟩
   ·exact hA.1 s' β' a' w' hx r' (st1.I st') (λi hi hj=>d' i (rh t1 hi (hj j aB)) (λk hk=>hj k (by simp[hk]))) (n'.trans n1)
   ·exact hA.2 v s' β' a' w' y hx gV r' (st1.I st') hy (λi hi hj=>d' i (rh t1 hi (hj j aB)) (λk hk=>hj k (by simp[hk]))) (n'.trans n1)
  ·subst hx;simp only[af.D,Option.some.injEq]at h2;exact hA.2 v s1 β1 a w1 y h2.symm gV r1 st1 hy (λi hi hj=>rh t1 hi (hj j aB)) n1
def aa9(ol:List Oper)(Pr:Nat->Prop)(BV:∀x o,Pr x->ol[x]? =some o->∀e∈o.after.toList,Region.binds .any e=true->Pr e.on):
  ∀(f:Nat)(seen:List Nat)(k:Nat),(∀x∈seen,Pr x)->∀x∈I7 ol f seen k,Pr x
 |0,seen,k,h,x,hx=>h x hx
 |f+1,seen,k,h,x,hx=>by
  unfold I7 at hx;split at hx
  ·exact h x hx
  ·rename_i i hi;refine aa9 ol Pr BV f _ _ (λy hy=> ?_) x hx;have mem:∀(l seen:List Nat)(y:Nat),y∈gy seen l->y∈seen\/y∈l:=by
    intro l;induction l with
    |nil=>intro seen y hy;exact .inl hy
    |cons a l ih=>
     intro seen y hy;unfold gy at hy;split at hy
     ·rcases ih seen y hy with h |h
      ·exact .inl h
      ·exact .inr (by simp[h])
     ·rcases ih _ y hy with h |h
      ·rcases List.mem_append.1 h with h |h
       ·exact .inl h
       ·exact .inr (by simp at h;simp[h])
      ·exact .inr (by simp[h])
   rcases mem _ _ y hy with h1 |h1
   ·exact h y h1
   ·cases ho:ol[i]? with
    |none=>rw[ho]at h1;simp at h1
    |some o=>rw[ho]at h1;simp only[jt,lr,List.mem_map,qK]at h1;obtain⟨e,⟨he,hb⟩,rfl⟩:=h1;exact BV i o (h i (eg hi)) ho e he hb
def JC(ol:List Oper)(Pr:Nat->Prop)(BV:∀x o,Pr x->ol[x]? =some o->∀e∈o.after.toList,Region.binds .any e=true->Pr e.on)(hi:Pr i):∀x∈gX ol i,Pr x:=
 aa9 ol Pr BV _ [i] 0 (by simpa using hi)
def Po{hn:iP}{base:Nat}{ol:List Oper}{i:Nat}{oi:Oper}(hi:ol[i]? =some oi)(B:List Nat){x:gA}:
  ∀(A:List Nat)(s:bu),(∀y∈A,y≠i/\y∉gX ol i/\i∉gX ol y/\∃oy,ol[y]? =some oy/\zS E.e hn ol y i oy oi=true)->(c8 E true hn ol base (A++i::B) s).D=some x->(c8 E true hn ol base (i::(A++B)) s).D=some x
 | [],s,_,h=>h
 |y::A,s,hA,h=>by
  obtain⟨h1,h2,h3,oy,h4,h5⟩:=hA y aB;rw[u9,c8]at h;obtain⟨g,e1,e2⟩:=cm h;have key:(c8 E true hn ol base (y::i::(A++B)) s).D=some x:=by
   rw[c8,zY e1];cases g with
   |a s1=>exact Po hi B A s1 (λz hz=>hA z (by simp[hz])) e2
   |b v s1=>exact e2
  exact amT hi h4 h1 h2 h3 h5 key
def aa_{m:Region.Mode}{r:List Nat}(h:I9 m ol r=true):∀(j:Nat)(o:Oper),ol[j]? =some o->∀e∈o.after.toList,Region.binds m e=true->r.getD e.on 0<r.getD j 0/\e.on<ol.length:=by intro j o ho e he hb;unfold I9 at h;rw[dS]at h;have h1:=h j (by simpa using (List.getElem?_eq_some_iff.1 ho).1);rw[ho]at h1;simp only[jt,lr,dS]at h1;have h2:=h1 e he;rw[hb]at h2;simp only[zm,HO,au]at h2;exact⟨ft h2.1,ft h2.2⟩
def Pp{m:Region.Mode}(h:I_ m ol=true):∃ρ:Nat->Nat,∀(j:Nat)(o:Oper),ol[j]? =some o->∀e∈o.after.toList,Region.binds m e=true->ρ e.on<ρ j/\e.on<ol.length:=by
 unfold I_ at h;rw[nh]at h;rcases h with h |h
 ·exact⟨λj=>(Fe m ol 8 []).getD j 0,aa_ h⟩
 ·exact⟨λj=>(Fe m ol 24 []).getD j 0,aa_ h⟩
def amY{m:Region.Mode}{e:Edge}(h:Region.binds .any e=true):Region.binds m e=true:=by
 unfold Region.binds at*;split at h<;>simp_all
 all_goals first | (exact absurd h av) |rfl
def aa'(h:Ov ol=true)(md:Region.Mode):(∀(j:Nat)(o:Oper),ol[j]? =some o->∀e∈o.after.toList,Region.binds .any e=true->e.on<j)/\
  ∃ρ:Nat->Nat,∀(j:Nat)(o:Oper),ol[j]? =some o->∀e∈o.after.toList,Region.binds md e=true->ρ e.on<ρ j/\e.on<ol.length:=by
 unfold Ov at h;rw[nh,au,au]at h;rcases h with h | ⟨⟨h1,h2⟩,h3⟩
 ·have hb:∀(j:Nat)(o:Oper),ol[j]? =some o->∀e∈o.after.toList,e.on<j:=by intro j o ho e he;unfold ZQ at h;rw[dS]at h;have h1:=h j (by simpa using (List.getElem?_eq_some_iff.1 ho).1);rw[ho]at h1;simp only[jt,lr]at h1;rw[<-HP,dS]at h1;exact ft (h1 e he)
  exact⟨λj o ho e he _=>hb j o ho e he,id,λj o ho e he _=>⟨hb j o ho e he,Nat.lt_trans (hb j o ho e he) (List.getElem?_eq_some_iff.1 ho).1⟩⟩
 ·refine⟨λj o ho e he hb=> ?_,?_⟩
  ·unfold ZR at h1;rw[dS]at h1;have h4:=h1 j (by simpa using (List.getElem?_eq_some_iff.1 ho).1);rw[ho]at h4;simp only[jt,lr,dS]at h4;have h5:=h4 e he;rw[hb]at h5;simp only[zm,HO]at h5;exact ft h5
  ·cases md with
   |text=>exact Pp h2
   |gc=>exact Pp h3
   |any=>obtain⟨ρ,hρ⟩:=Pp h2;exact⟨ρ,λj o ho e he hb=>hρ j o ho e he (amY hb)⟩
def Pq(ρ:Nat->Nat):∀(l:List Nat),l≠ []->∃i∈l,∀k∈l,ρ i<=ρ k
 | [],h=>absurd rfl h
 | [a],_=>⟨a,aB,aB⟩
 |a::b::l,_=>by
  obtain⟨i,hi,h⟩:=Pq ρ (b::l) aB;by_cases hc:ρ a<=ρ i
  ·exact⟨a,aB,λk hk=>by
    rcases List.mem_cons.1 hk with rfl |hk
    ·exact bj _
    ·exact eb hc (h k hk)⟩
  ·exact⟨i,oX _ hi,λk hk=>by
    rcases List.mem_cons.1 hk with rfl |hk
    ·omega
    ·exact h k hk⟩
def amZ(hT:cH P E.a)(hC:∀g,ck E.a E.b P g (E.f g))(hd:∀(i:Nat)(t:Tmp),(ops[i]?).bind (λo:Oper=>o.dst)=some t->t<n)(bH:xP E.e hn ops.toList=true)(md:Region.Mode):
  ∀(f:Nat)(listed:Array Bool)(s:bu)(β:Nat->bd)(a:Act)(w:World)(x:gA),bA E Z n lo d0 s β a w->listed.size=ops.size->
   (∀i o,ops[i]? =some o->listed.getD i true=true->∀e∈o.after.toList,Region.binds .any e=true->listed.getD e.on false=true)->
   ((List.range ops.size).filter λi=> !listed.getD i true).length<=f->
   (∀j∈(List.range ops.size).filter (λi=> !listed.getD i true),∀i,gN base j i->s.a i=.c)->
   (c8 E true hn ops.toList base ((List.range ops.size).filter λi=> !listed.getD i true) s).D=some x->
   (∀s' β' a' w',x=.a s'->bA E Z n lo d0 s' β' a' w'->dF s.a β w s'.a β' w'->(∀i,s.a i=.c->(∀j,j<ops.size->¬gN base j i)->s'.a i=.c)->s'.c=s.c->Q .normal a' w')->
   wpAny P md ops Q f listed a w:=by
 unfold xP at bH;rw[au]at bH;obtain⟨ER,BW⟩:=bH;obtain⟨Ym,ρ,Yn⟩:=aa' ER md;have Yo:∀(j:Nat)(o:Oper),ops[j]? =some o->∀e∈o.after.toList,Region.binds .any e=true->e.on<j:=λj o ho=>Ym j o (by rw[fu];exact ho);have hρ:∀(j:Nat)(o:Oper),ops[j]? =some o->∀e∈o.after.toList,Region.binds md e=true->ρ e.on<ρ j/\e.on<ops.size:=λj o ho e he hb=>by have:=Yn j o (by rw[fu];exact ho) e he hb;simpa using this
 have Ih:∀(i j:Nat)(oi oj:Oper),i<j->ops[i]? =some oi->ops[j]? =some oj->i∈gX ops.toList j\/zS E.e hn ops.toList i j oi oj=true:=by
  intro i j oi oj gH hi hj;unfold Ot at BW;rw[dS]at BW;have pT:=(Array.getElem?_eq_some_iff.1 hj).1;have h1:=BW j (by simpa using pT);rw[dS]at h1;have h2:=h1 i (by simpa using gH);simp only[fu,hi,hj]at h2;rw[nh]at h2;rcases h2 with h2 |h2
  ·exact .inl (by simpa using h2)
  ·exact .inr h2
 have Yp:∀(y:Nat),∀x∈gX ops.toList y,x<=y:=λy=>JC ops.toList (λx=>x<=y) (λx o hx ho e he hb=>by
  rw[fu]at ho;have:=Yo x o ho e he hb;omega) (bj _)
 intro f;induction f with
 |zero=>
  intro listed s β a w x r _ _ hf _ he hQ;have lf:=xg (Nat.le_zero.1 hf);refine⟨?_,?_⟩
  ·unfold Region.ready;rw[List.filter_eq_nil_iff]at lf⊢;intro i hi hc;rw[au]at hc;exact lf i hi hc.1
  ·rw[lf]at he;simp only[c8,af.D,Option.some.injEq]at he;exact hQ s β a w he.symm r dF.D (λi hi _=>hi) rfl
 |succ f ih=>
  intro listed s β a w x r bE jx hf ec he hQ;refine⟨λYq=> ?_,λi hi=> ?_⟩
  ·
   cases hR:(List.range ops.size).filter (λi=> !listed.getD i true)with
   |nil=>rw[hR]at he;simp only[c8,af.D,Option.some.injEq]at he;exact hQ s β a w he.symm r dF.D (λi hi _=>hi) rfl
   |cons i0 R0=>
    exfalso;obtain⟨i,hi,Ii⟩:=Pq ρ ((List.range ops.size).filter (λi=> !listed.getD i true)) (by rw[hR];simp);rw[qK]at hi;have jO:i<ops.size:=by simpa using hi.1
    have ES:i∉Region.ready md ops listed:=by rw[Yq];simp
    refine ES ?_;unfold Region.ready;rw[qK];refine⟨hi.1,?_⟩;rw[au];refine⟨hi.2,?_⟩;rw[ku jO];simp only[jt,lr];rw[<-HP,dS];intro e im;cases hb:Region.binds md e with
    |false=>simp
    |true=>
     obtain⟨g1,g2⟩:=hρ i _ (ku jO) e im hb;have h1:listed.getD e.on true=true:=by
      cases hq:listed.getD e.on true with
      |true=>rfl
      |false=>have:=Ii e.on (List.mem_filter.2 ⟨by simpa using g2,by rw[hq];rfl⟩);omega
     have:listed.getD e.on false=true:=by have hl:e.on<listed.size:=ab;simp[fh,hl]at h1⊢;exact h1
     rw[this];simp
  ·unfold Region.ready at hi;rw[qK,au]at hi;obtain⟨xx,BX,oq⟩:=hi;have jO:i<ops.size:=by simpa using xx
   obtain⟨oi,nt⟩:∃oi,ops[i]? =some oi:=⟨_,ku jO⟩
   rw[nt]at oq;simp only[jt,lr]at oq;rw[<-HP,dS]at oq;have Ij:∀e∈oi.after.toList,Region.binds .any e=true->listed.getD e.on false=true:=by
    intro e im hb;have h1:=oq e im;rw[nh]at h1;rcases h1 with h1 |h1
    ·have:Region.binds md e=true:=by
      unfold Region.binds at hb⊢;split at hb<;>simp_all
      all_goals first | (exact absurd hb av) |rfl
     rw[this]at h1;cases h1
    ·exact h1
   obtain⟨A,B,pW⟩:=List.append_of_mem (List.mem_filter.2 ⟨xx,BX⟩:i∈(List.range ops.size).filter (λi=> !listed.getD i true));have Ik:((List.range ops.size).filter (λi=> !listed.getD i true)).Pairwise (· < ·):=List.pairwise_lt_range.filter _;have rX:((List.range ops.size).filter (λi=> !listed.getD i true)).Nodup:=List.nodup_range.filter _;have BY:∀k,k<ops.size->listed.getD k false=listed.getD k true:=λk hk=>by have hl:k<listed.size:=ab;simp[fh,hl]
   have Il:∀y∈A,y<i/\y<ops.size/\listed.getD y true=false:=by
    intro y hy;have BZ:y∈(List.range ops.size).filter (λi=> !listed.getD i true):=by rw[pW];simp[hy]
    rw[qK]at BZ;rw[pW]at Ik;refine⟨(List.pairwise_append.1 Ik).2.2 y hy i aB,by simpa using BZ.1,by simpa using BZ.2⟩
   have ET:∀y,y∈gX ops.toList i->y=i\/listed.getD y false=true:=by
    refine JC ops.toList (λy=>y=i\/listed.getD y false=true) (λy o hy ho e im hb=> ?_) (.inl rfl);rw[fu]at ho;rcases hy with rfl |hy
    ·rw[nt]at ho;simp at ho;subst ho;exact .inr (Ij e im hb)
    ·have jy:=(Array.getElem?_eq_some_iff.1 ho).1;exact .inr (jx y o ho (by rw[<-BY y jy];exact hy) e im hb)
   have Im:=Po (E:=E) (base:=base) (ol:=ops.toList) (i:=i) (oi:=oi) (by rw[fu];exact nt) B A s (x:=x) (λy hy=>by
    obtain⟨h1,h2,h3⟩:=Il y hy;have zE:y∉gX ops.toList i:=λhc=>by
     rcases ET y hc with h4 |h4
     ·omega
     ·rw[BY y h2,h3]at h4;cases h4
    obtain⟨oy,vr⟩:∃oy,ops[y]? =some oy:=⟨_,ku h2⟩
    refine⟨ab,zE,λhc=>by have:=Yp y i hc;omega,oy,by rw[fu];exact vr,?_⟩;exact(Ih y i oy oi h1 vr nt).resolve_left zE) (by rw[<-pW];exact he)
   have jd:∀k,(listed.setIfInBounds i true).getD k true=(if k=i then true else listed.getD k true):=by
    intro k;simp only[fh,BA];by_cases hk:k=i
    ·subst hk;simp[bE,jO]
    ·rw[if_neg (lY hk),if_neg hk]
   have Io:∀k,listed.getD k false=true->(listed.setIfInBounds i true).getD k false=true:=by
    intro k hk;simp only[fh,BA]at hk⊢;by_cases gU:i=k
    ·subst gU;simp[bE,jO]
    ·rw[if_neg gU];exact hk
   have hR':(List.range ops.size).filter (λk=> !(listed.setIfInBounds i true).getD k true)=A++B:=by
    have h1:(List.range ops.size).filter (λk=> !(listed.setIfInBounds i true).getD k true)=((List.range ops.size).filter (λk=> !listed.getD k true)).filter (λk=>decide (k≠i)):=by rw[XX];apply XY;intro k _;rw[jd];by_cases hk:k=i<;>simp[hk]
    rw[h1,pW,List.filter_append,vc];rw[pW]at rX;rw[Ev,tB]at rX;have Yr:A.filter (λk=>decide (k≠i))=A:=by rw[Ex];intro k hk;have:=rX.2.2 k hk i aB;simpa using this
    have Ys:B.filter (λk=>decide (k≠i))=B:=by rw[Ex];intro k hk;have bL:k≠i:=λhe=>rX.2.1.1 (by rw[<-he];exact hk);simpa using bL
    rw[Yr,Ys];simp
   rw[c8]at Im;obtain⟨x1,e1,e2⟩:=cm Im;refine FC hT hC r hd (λk h3 h4=>ec i (List.mem_filter.2 ⟨xx,BX⟩) k ⟨h3,h4⟩) e1 ⟨λs1 β1 a1 w1 hx r1 st1 t1 n1=> ?_,λv s1 β1 w1 y hx gV r1 st1 hy t1 n1=> ?_⟩
   ·subst hx;simp only at e2;refine ih (listed.setIfInBounds i true) s1 β1 a1 w1 x r1 (by simpa using bE) (λk o ho hk e im hb=> ?_) ?_ ?_ (by rw[hR'];exact e2) (λs' β' a' w' hx r' st' d' n'=> ?_)
    ·rw[jd]at hk;by_cases iI:k=i
     ·subst iI;rw[nt]at ho;simp at ho;subst ho;exact Io _ (Ij e im hb)
     ·rw[if_neg iI]at hk;exact Io _ (jx k o ho hk e im hb)
    ·rw[hR'];rw[pW]at hf;simp only[eG,eM]at hf⊢;omega
    ·intro j hj k hk;rw[hR']at hj;have aKA:j∈(List.range ops.size).filter (λi=> !listed.getD i true):=by
      rw[pW];rcases List.mem_append.1 hj with h |h
      ·simp[h]
      ·simp[h]
     refine rh t1 (ec j aKA k hk) (λhc=> ?_);have:=FD hc hk;subst this;rw[pW,Ev,tB]at rX;rcases List.mem_append.1 hj with h |h
     ·exact rX.2.2 _ h _ aB rfl
     ·exact rX.2.1.1 h
    ·exact hQ s' β' a' w' hx r' (st1.I st') (λk hk hj=>d' k (rh t1 hk (hj i jO)) hj) (n'.trans n1)
   ·subst hx;exfalso;rw[z7 (by rw[fu];exact nt)]at e1;cases hq:pw E hn ops.toList base i oi s.b s.a with
    |none=>rw[hq]at e1;cases e1
    |some p=>rw[hq]at e1;simp at e1
def am0{p q:Nat->Bool}{l:List Nat}(zq:∀k,p k=true->q k=true)(hi:i∈l.filter q)(hp:p i=false):(l.filter p).length<(l.filter q).length:=by
 induction l with
 |nil=>cases hi
 |cons a l ih=>
  rw[vc,vc];by_cases ajN:a=i
  ·subst ajN;have hq:q a=true:=(List.mem_filter.1 hi).2;rw[hp,hq];simp only[xi,↓reduceIte,eM];have:(l.filter p).length<=(l.filter q).length:=by
    clear ih hi;induction l with
    |nil=>simp
    |cons b l ih=>
     rw[vc,vc];cases hb:p b with
     |true=>rw[zq b hb];simpa using ih
     |false=>
      cases eT:q b with
      |true=>simp;omega
      |false=>simpa using ih
   omega
  ·have hi':i∈l.filter q:=by
    rw[qK]at hi⊢;rcases List.mem_cons.1 hi.1 with h |h
    ·exact absurd h.symm ajN
    ·exact⟨h,hi.2⟩
   have:=ih hi';cases hb:p a with
   |true=>rw[zq a hb];simpa using this
   |false=>
    cases eT:q a with
    |true=>simp;omega
    |false=>simpa using this
def am1(hT:cH P E.a)(hC:∀g,ck E.a E.b P g (E.f g)){a:Act}(r:bA E Z n lo d0 s β a w)
  (de:∀i,base+64*j<=i->i<base+64*j+64->s.a i=.c)(he:(vP E hn ol base j o s).D=some (.b v s')){next:Act->World->Prop}
  (hA:∀β' w' y,v.gx=true->bA E Z n lo d0 s' β' a w'->dF s.a β w s'.a β' w'->ax E.a w' (aY Z s'.a β') v bh y->sr s.a s'.a (base+64*j)->s'.c=s.c->Q (.panic [{v:=y,recovered:=false}]) a w'):o.wp P a w next Q:=by
 unfold vP at he;rw[Fb]at he;obtain⟨rs,h1,h2⟩:=cm he;have Yk:pt (jR true hn ol base j o s.a) s.a:=by
  intro i;unfold jR;simp only;cases pq o with
  |true=>exact .inl rfl
  |false=>
   simp only[xO];split
   ·exact .inr rfl
   ·exact .inl rfl
 have Yl:qd E.a w (aY Z s.a β) (bW E.a s.a β) (oz true ol o s.b) a:=by
  intro t;unfold oz;simp only[vM];split
  ·exact r.m t
  ·exact trivial
 refine aa1 (view:=jR true hn ol base j o s.a) (s:=oz true ol o s.b) ⟨hT,r.f,Yk,Yl⟩ de hC h1 ⟨λv u y w' β' hr f_=> ?_,λv u y w' β' hr gV f_=> ?_⟩
 ·subst hr;simp[af.D]at h2
 ·subst hr;simp only[af.D,Option.some.injEq,gA.b.injEq]at h2;obtain⟨rfl,rfl⟩:=h2;refine hA β' w' y gV ⟨f_.b,λt=> ?_,r.p,r.z.U f_.a⟩ f_.a (q9 f_.c gV) f_.d rfl;show ax _ _ _ (Cr ol s.b t) _ _;unfold Cr;cases(Fg ol).contains t with
  |true=>exact trivial
  |false=>exact f_.a.V r.f (r.m t)
def am2(hq:vO o=true){fr:Nat}{x:di}(he:(cj E h sl fr o).D=some x):∃v,x=.a v []:=by
 unfold vO at hq;rw[au]at hq;have hq:=hq.2;unfold cj at he;cases ho:o.op with
 |move y=>rw[ho]at he;simp only[af.D,Option.some.injEq]at he;exact⟨_,he.symm⟩
 |load t y=>
  rw[ho]at he;simp only at he;unfold kC at he;split at he
  ·simp only at he;split at he
   ·split at he
    ·simp only[af.D,Option.some.injEq]at he;exact⟨_,he.symm⟩
    ·simp[af.D]at he
   ·split at he
    ·simp only[af.D,Option.some.injEq]at he;exact⟨_,he.symm⟩
    ·simp[af.D]at he
  ·simp[af.D]at he
 |pick c y z=>
  rw[ho]at he;simp only at he;split at he
  ·rename_i t _;cases t<;>simp only[af.D,Option.some.injEq]at he<;>exact⟨_,he.symm⟩
  ·simp[af.D]at he
 |fieldAddr t y f=>
  rw[ho]at he;simp only at he
  repeat' split at he
  all_goals first | (simp only[af.D,Option.some.injEq]at he;exact⟨_,he.symm⟩) | (simp[af.D]at he;done) |skip
 |buildSlice t len ps=>
  rw[ho]at hq;simp only at hq;rw[ho]at he;simp only[hq]at he
  repeat' split at he
  all_goals first | (simp only[af.D,Option.some.injEq]at he;exact⟨_,he.symm⟩) | (simp[af.D]at he;done) |skip
 |call c=>
  rw[ho]at hq;simp only at hq;split at hq
  ·rename_i jx;rw[ho]at he;simp only[jx]at he;unfold I2 at he;split at he
   ·repeat' split at he
    all_goals first | (simp only[af.D,Option.some.injEq]at he;exact⟨_,he.symm⟩) | (simp[af.D]at he;done) |skip
   all_goals first |contradiction | (simp[Tr.eval]at he;done)
  ·cases hq
 |_=>rw[ho]at hq;cases hq
def am3{y:Nat}(hy:ol[y]? =some o)(hq:vO o=true){s1:bu}(h:(nD E true hn ol base s y).D=some (.a s1)):s1.a=s.a/\s1.c=s.c/\∀t,o.dst≠some t->s1.b t=s.b t:=by
 have hg:o.guard=none:=by unfold vO at hq;rw[au]at hq;simpa using hq.1
 unfold nD at h;rw[hy]at h;simp only[hg]at h;unfold tZ at h;rw[Fb]at h;obtain⟨rs,h1,h2⟩:=cm h;obtain⟨v,rfl⟩:=am2 hq h1;simp only at h2;split at h2
 ·simp only[af.D,Option.some.injEq,gA.a.injEq]at h2;subst h2;refine⟨rfl,rfl,λt ht=> ?_⟩;show iO s.b o.dst v t=s.b t;cases hd:o.dst with
  |none=>rfl
  |some d=>exact fj _ _ (λe=>ht (by rw[hd,e]))
 ·simp[af.D]at h2
def aba{hn:iP}{ol:List Oper}:∀(N:List Nat)(s sN:bu),(∀y∈N,∃o,ol[y]? =some o/\vO o=true)->(c8 E true hn ol base N s).D=some (.a sN)->sN.a=s.a/\sN.c=s.c/\∀t,(∀y∈N,(ol[y]?).bind (·.dst)≠some t)->sN.b t=s.b t
 | [],s,sN,_,h=>by simp only[c8,af.D,Option.some.injEq,gA.a.injEq]at h;subst h;exact⟨rfl,rfl,λ_ _=>rfl⟩
 |y::N,s,sN,hN,h=>by
  rw[c8]at h;obtain⟨g,e1,e2⟩:=cm h;obtain⟨o,ho,hq⟩:=hN y aB;cases g with
  |b v s'=>simp[af.D]at e2
  |a s1=>obtain⟨a1,a2,a3⟩:=am3 ho hq e1;obtain⟨b1,b2,b3⟩:=aba N s1 sN (λz hz=>hN z (by simp[hz])) e2;refine⟨b1.trans a1,b2.trans a2,λt ht=>(b3 t (λz hz=>ht z (by simp[hz]))).trans (a3 t (λe=>ht y aB (by rw[ho];exact e)))⟩
def am4{y:Nat}{t:Nat}(h:(ol[y]?).bind (λo:Oper=>o.dst)=some t):(Fg ol).contains t=true:=by
 rw[List.contains_iff_mem];unfold Fg;rw[List.mem_filterMap];cases ho:ol[y]? with
 |none=>rw[ho]at h;cases h
 |some o=>rw[ho]at h;exact⟨o,eg ho,h⟩
def am5{N:List Nat}{sN:bu}(hN:∀y∈N,∃o,ol[y]? =some o/\vO o=true/\∀d,o.dst=some d->d∉pk ol oj)(h:(c8 E true hn ol base N s).D=some (.a sN))(hp:(vP E hn ol base j oj sN).D=some (.b v s')):(vP E hn ol base j oj s).D=some (.b v s'):=by
 obtain⟨h1,h2,h3⟩:=aba N s sN (λy hy=>by obtain⟨o,a,b,_⟩:=hN y hy;exact⟨o,a,b⟩) h;have lz:oz true ol oj sN.b=oz true ol oj s.b:=by
  funext t
  show vM (pk ol oj) sN.b t=vM (pk ol oj) s.b t;unfold vM;cases hc:(pk ol oj).contains t with
  |false=>rfl
  |true=>refine h3 t (λy hy he=> ?_);obtain⟨o,a,_,c⟩:=hN y hy;rw[a]at he;exact c t he (by simpa using hc)
 have aKB:Cr ol sN.b=Cr ol s.b:=by
  funext t
  unfold Cr;cases hc:(Fg ol).contains t with
  |true=>rfl
  |false=>refine h3 t (λy hy he=> ?_);rw[am4 he]at hc;cases hc
 unfold vP at hp⊢;rw[lz,h1]at hp;obtain⟨rs,e1,e2⟩:=cm hp;rw[zY e1];cases rs with
 |a v u=>simp[af.D]at e2
 |b v u=>simp only[af.D,Option.some.injEq,gA.b.injEq]at e2⊢;obtain⟨rfl,rfl⟩:=e2;refine⟨rfl,?_⟩;rw[aKB];cases sN;cases s;simp only at h2;subst h2;rfl
def am6(hj:ol[j]? =some oj)(h:Ff ol j=true):oj.guard=none/\∀k ok,ol[k]? =some ok->k≠j->j∈gX ol k\/k∈gX ol j\/vO ok=true:=by
 unfold Ff at h;rw[hj]at h;simp only[au,dS]at h;obtain⟨⟨h1,_⟩,h2⟩:=h;refine⟨by simpa using h1,λk ok bH aKC=> ?_⟩;have jA:=(List.getElem?_eq_some_iff.1 bH).1;have h3:=h2 k (by simpa using jA);rw[nh,nh,nh,bH]at h3;rcases h3 with((h3 |h3) |h3) |h3
 ·exact absurd (aV h3) aKC
 ·exact .inl (by simpa using h3)
 ·exact .inr (.inl (by simpa using h3))
 ·exact .inr (.inr (by simpa using h3))
def FE:k∈pr ol j↔k<ol.length/\k≠j/\j∉gX ol k:=by
 unfold pr;rw[qK,au,List.mem_range];constructor
 ·rintro⟨h1,h2,h3⟩;refine⟨h1,λe=> ?_,by simpa using h3⟩;rw[e,gq]at h2;cases h2
 ·rintro⟨h1,h2,h3⟩;refine⟨h1,?_,by simpa using h3⟩;cases hb:Nat.beq k j with
  |false=>rfl
  |true=>exact absurd (aV hb) h2
def am7(hT:cH P E.a)(hC:∀g,ck E.a E.b P g (E.f g))(hd:∀(i:Nat)(t:Tmp),(ops[i]?).bind (λo:Oper=>o.dst)=some t->t<n)(bH:xP E.e hn ops.toList=true)(md:Region.Mode)(hj:ops[j]? =some oj)(Yt:Ff ops.toList j=true):
  ∀(f:Nat)(listed:Array Bool)(s sN:bu)(β:Nat->bd)(a:Act)(w:World),bA E Z n lo d0 s β a w->listed.size=ops.size->
   (∀i o,ops[i]? =some o->listed.getD i true=true->∀e∈o.after.toList,Region.binds .any e=true->listed.getD e.on false=true)->
   ((List.range ops.size).filter λi=> !listed.getD i true).length<=f->listed.getD j true=false->
   (∀k∈(List.range ops.size).filter (λi=> !listed.getD i true),∀i,gN base k i->s.a i=.c)->
   (c8 E true hn ops.toList base ((pr ops.toList j).filter λi=> !listed.getD i true) s).D=some (.a sN)->(vP E hn ops.toList base j oj sN).D=some (.b v s')->
   (∀β' a' w' y,v.gx=true->bA E Z n lo d0 s' β' a' w'->dF s.a β w s'.a β' w'->ax E.a w' (aY Z s'.a β') v bh y->(∀i,s.a i=.c->(∀k,k<ops.size->¬gN base k i)->s'.a i=.c)->s'.c=s.c->Q (.panic [{v:=y,recovered:=false}]) a' w')->
   wpAny P md ops Q f listed a w:=by
 obtain⟨aKD,aKE⟩:=am6 (by rw[fu];exact hj) Yt;have pT:j<ops.size:=(Array.getElem?_eq_some_iff.1 hj).1;unfold xP at bH;rw[au]at bH;obtain⟨ER,BW⟩:=bH;obtain⟨Ym,ρ,Yn⟩:=aa' ER md;have Yo:∀(j:Nat)(o:Oper),ops[j]? =some o->∀e∈o.after.toList,Region.binds .any e=true->e.on<j:=λj o ho=>Ym j o (by rw[fu];exact ho);have hρ:∀(j:Nat)(o:Oper),ops[j]? =some o->∀e∈o.after.toList,Region.binds md e=true->ρ e.on<ρ j/\e.on<ops.size:=λj o ho e he hb=>by have:=Yn j o (by rw[fu];exact ho) e he hb;simpa using this
 have Ih:∀(i j:Nat)(oi oj:Oper),i<j->ops[i]? =some oi->ops[j]? =some oj->i∈gX ops.toList j\/zS E.e hn ops.toList i j oi oj=true:=by
  intro i j oi oj gH hi hj;unfold Ot at BW;rw[dS]at BW;have pT:=(Array.getElem?_eq_some_iff.1 hj).1;have h1:=BW j (by simpa using pT);rw[dS]at h1;have h2:=h1 i (by simpa using gH);simp only[fu,hi,hj]at h2;rw[nh]at h2;rcases h2 with h2 |h2
  ·exact .inl (by simpa using h2)
  ·exact .inr h2
 have Yp:∀(y:Nat),∀x∈gX ops.toList y,x<=y:=λy=>JC ops.toList (λx=>x<=y) (λx o hx ho e he hb=>by
  rw[fu]at ho;have:=Yo x o ho e he hb;omega) (bj _)
 intro f;induction f with
 |zero=>intro listed s sN β a w r bE _ hf B5;have lf:=xg (Nat.le_zero.1 hf);have:j∈(List.range ops.size).filter (λi=> !listed.getD i true):=List.mem_filter.2 ⟨by simpa using pT,by rw[B5];rfl⟩;rw[lf]at this;cases this
 |succ f ih=>
  intro listed s sN β a w r bE jx hf B5 ec he hp hQ;refine⟨λYq=> ?_,λi hi=> ?_⟩
  ·exfalso;obtain⟨i,hi,Ii⟩:=Pq ρ ((List.range ops.size).filter (λi=> !listed.getD i true)) (List.ne_nil_of_mem (List.mem_filter.2 ⟨by simpa using pT,by rw[B5];rfl⟩:j∈_));rw[qK]at hi;have jO:i<ops.size:=by simpa using hi.1
   have ES:i∉Region.ready md ops listed:=by rw[Yq];simp
   refine ES ?_;unfold Region.ready;rw[qK];refine⟨hi.1,?_⟩;rw[au];refine⟨hi.2,?_⟩;rw[ku jO];simp only[jt,lr];rw[<-HP,dS];intro e im;cases hb:Region.binds md e with
   |false=>simp
   |true=>
    obtain⟨g1,g2⟩:=hρ i _ (ku jO) e im hb;have h1:listed.getD e.on true=true:=by
     cases hq:listed.getD e.on true with
     |true=>rfl
     |false=>have:=Ii e.on (List.mem_filter.2 ⟨by simpa using g2,by rw[hq];rfl⟩);omega
    have:listed.getD e.on false=true:=by have hl:e.on<listed.size:=ab;simp[fh,hl]at h1⊢;exact h1
    rw[this];simp
  ·unfold Region.ready at hi;rw[qK,au]at hi;obtain⟨xx,BX,oq⟩:=hi;have jO:i<ops.size:=by simpa using xx
   obtain⟨oi,nt⟩:∃oi,ops[i]? =some oi:=⟨_,ku jO⟩
   rw[nt]at oq;simp only[jt,lr]at oq;rw[<-HP,dS]at oq;have Ij:∀e∈oi.after.toList,Region.binds .any e=true->listed.getD e.on false=true:=by
    intro e im hb;have h1:=oq e im;rw[nh]at h1;rcases h1 with h1 |h1
    ·have:Region.binds md e=true:=by
      unfold Region.binds at hb⊢;split at hb<;>simp_all
      all_goals first | (exact absurd hb av) |rfl
     rw[this]at h1;cases h1
    ·exact h1
   have BY:∀k,k<ops.size->listed.getD k false=listed.getD k true:=λk hk=>by have hl:k<listed.size:=ab;simp[fh,hl]
   have ET:∀y,y∈gX ops.toList i->y=i\/listed.getD y false=true:=by
    refine JC ops.toList (λy=>y=i\/listed.getD y false=true) (λy o hy ho e im hb=> ?_) (.inl rfl);rw[fu]at ho;rcases hy with rfl |hy
    ·rw[nt]at ho;simp at ho;subst ho;exact .inr (Ij e im hb)
    ·have jy:=(Array.getElem?_eq_some_iff.1 ho).1;exact .inr (jx y o ho (by rw[<-BY y jy];exact hy) e im hb)
   have aM1:listed.getD i true=false:=by simpa using BX
   have jd:∀k,(listed.setIfInBounds i true).getD k true=(if k=i then true else listed.getD k true):=by
    intro k;simp only[fh,BA];by_cases hk:k=i
    ·subst hk;simp[bE,jO]
    ·rw[if_neg (lY hk),if_neg hk]
   have Io:∀k,listed.getD k false=true->(listed.setIfInBounds i true).getD k false=true:=by
    intro k hk;simp only[fh,BA]at hk⊢;by_cases gU:i=k
    ·subst gU;simp[bE,jO]
    ·rw[if_neg gU];exact hk
   have vp:i=j\/(i≠j/\j∈gX ops.toList i)\/i∈pr ops.toList j:=by
    by_cases h1:i=j
    ·exact .inl h1
    ·by_cases h2:j∈gX ops.toList i
     ·exact .inr (.inl ⟨h1,h2⟩)
     ·exact .inr (.inr (FE.2 ⟨by simpa using jO,h1,h2⟩))
   rcases vp with gH |gH |gH
   rotate_left 2
   ·
    obtain⟨A,B,pW⟩:=List.append_of_mem (List.mem_filter.2 ⟨gH,BX⟩:i∈(pr ops.toList j).filter (λi=> !listed.getD i true));have Ik:((pr ops.toList j).filter (λi=> !listed.getD i true)).Pairwise (· < ·):=(List.pairwise_lt_range.filter _).filter _;have rX:((pr ops.toList j).filter (λi=> !listed.getD i true)).Nodup:=(List.nodup_range.filter _).filter _;have Il:∀y∈A,y<i/\y<ops.size/\listed.getD y true=false:=by
     intro y hy;have BZ:y∈(pr ops.toList j).filter (λi=> !listed.getD i true):=by rw[pW];simp[hy]
     rw[qK]at BZ;rw[pW]at Ik;have:=(FE.1 BZ.1).1;exact⟨(List.pairwise_append.1 Ik).2.2 y hy i aB,by simpa using this,by simpa using BZ.2⟩
    have Im:=Po (E:=E) (base:=base) (ol:=ops.toList) (i:=i) (oi:=oi) (by rw[fu];exact nt) B A s (x:=.a sN) (λy hy=>by
     obtain⟨h1,h2,h3⟩:=Il y hy;have zE:y∉gX ops.toList i:=λhc=>by
      rcases ET y hc with h4 |h4
      ·omega
      ·rw[BY y h2,h3]at h4;cases h4
     obtain⟨oy,vr⟩:∃oy,ops[y]? =some oy:=⟨_,ku h2⟩
     refine⟨ab,zE,λhc=>by have:=Yp y i hc;omega,oy,by rw[fu];exact vr,?_⟩;exact(Ih y i oy oi h1 vr nt).resolve_left zE) (by rw[<-pW];exact he)
    have hR':(pr ops.toList j).filter (λk=> !(listed.setIfInBounds i true).getD k true)=A++B:=by
     have h1:(pr ops.toList j).filter (λk=> !(listed.setIfInBounds i true).getD k true)=((pr ops.toList j).filter (λk=> !listed.getD k true)).filter (λk=>decide (k≠i)):=by rw[XX];apply XY;intro k _;rw[jd];by_cases hk:k=i<;>simp[hk]
     rw[h1,pW,List.filter_append,vc];rw[pW]at rX;rw[Ev,tB]at rX;have Yr:A.filter (λk=>decide (k≠i))=A:=by rw[Ex];intro k hk;have:=rX.2.2 k hk i aB;simpa using this
     have Ys:B.filter (λk=>decide (k≠i))=B:=by rw[Ex];intro k hk;have bL:k≠i:=λhe=>rX.2.1.1 (by rw[<-he];exact hk);simpa using bL
     rw[Yr,Ys];simp
    rw[c8]at Im;obtain⟨x1,e1,e2⟩:=cm Im;have pP:i∈(List.range ops.size).filter (λi=> !listed.getD i true):=List.mem_filter.2 ⟨xx,BX⟩;refine FC hT hC r hd (λk h3 h4=>ec i pP k ⟨h3,h4⟩) e1 ⟨λs1 β1 a1 w1 hx r1 st1 t1 n1=> ?_,λv s1 β1 w1 y hx gV r1 st1 hy t1 n1=> ?_⟩
    ·subst hx;simp only at e2;refine ih (listed.setIfInBounds i true) s1 sN β1 a1 w1 r1 (by simpa using bE) (λk o ho hk e im hb=> ?_) ?_ ?_ ?_ (by rw[hR'];exact e2) hp (λβ' a' w' y gV r' st' hy d' n'=> ?_)
     ·rw[jd]at hk;by_cases iI:k=i
      ·subst iI;rw[nt]at ho;simp at ho;subst ho;exact Io _ (Ij e im hb)
      ·rw[if_neg iI]at hk;exact Io _ (jx k o ho hk e im hb)
     ·have cC:((List.range ops.size).filter λk=> !(listed.setIfInBounds i true).getD k true).length<((List.range ops.size).filter λk=> !listed.getD k true).length:=by
       refine am0 (λk hk=> ?_) pP (by rw[jd];simp);rw[jd]at hk;by_cases iI:k=i
       ·rw[if_pos iI]at hk;cases hk
       ·rw[if_neg iI]at hk;exact hk
      omega
     ·rw[jd,if_neg (λe=>(FE.1 gH).2.1 e.symm)];exact B5
     ·intro k hk m hm;rw[qK,jd]at hk;have iI:k≠i:=λe=>by rw[if_pos e]at hk;cases hk.2
      rw[if_neg iI]at hk;refine rh t1 (ec k (List.mem_filter.2 hk) m hm) (λhc=>iI (FD hm hc))
     ·exact hQ β' a' w' y gV r' (st1.I st') hy (λk hk hj=>d' k (rh t1 hk (hj i jO)) hj) (n'.trans n1)
    ·subst hx;exfalso;rw[z7 (by rw[fu];exact nt)]at e1;cases hq:pw E hn ops.toList base i oi s.b s.a with
     |none=>rw[hq]at e1;cases e1
     |some p=>rw[hq]at e1;simp at e1
   ·
    subst gH;have NG:oi=oj:=by rw[nt]at hj;exact Option.some.inj hj
    subst NG;have qO:=am5 (λy hy=>by
     rw[qK,FE]at hy;obtain⟨⟨jy,Yu,hyp⟩,ajO⟩:=hy;have jy:y<ops.size:=by simpa using jy
     obtain⟨oy,vr⟩:∃oy,ops[y]? =some oy:=⟨_,ku jy⟩
     have zE:y∉gX ops.toList i:=λhc=>by
      rcases ET y hc with h4 |h4
      ·exact Yu h4
      ·rw[BY y jy]at h4;rw[h4]at ajO;cases ajO
     have aKF:vO oy=true:=by
      rcases aKE y oy (by rw[fu];exact vr) Yu with h |h |h
      ·exact absurd h hyp
      ·exact absurd h zE
      ·exact h
     refine⟨oy,by rw[fu];exact vr,aKF,λd NH=> ?_⟩;rcases XZ y i with h |h |h
     ·exact((Pm ((Ih y i oy oi h vr nt).resolve_left zE)).1 d NH).1
     ·exact absurd h Yu
     ·exact(Pm ((Ih i y oi oy h nt vr).resolve_left hyp)).2.1 d NH) he hp
    have pP:i∈(List.range ops.size).filter (λi=> !listed.getD i true):=List.mem_filter.2 ⟨xx,BX⟩;unfold wpOp;rw[nt];simp only;have hw:Region.wanted oi (yielded ops a.tmps)=true:=by simp[Region.wanted,aKD]
    rw[if_pos hw];exact .inl (am1 hT hC r (λk h3 h4=>ec i pP k ⟨h3,h4⟩) qO λβ' w' y gV r' st' hy t' n'=>hQ β' a w' y gV r' st' hy (λk hk hj=>rh t' hk (hj i jO)) n')
   ·exfalso;rcases ET j gH.2 with h |h
    ·exact gH.1 h.symm
    ·rw[BY j pT,B5]at h;cases h
end
section
variable{T:TypeId->bz}{G:Nat->aa}{Z O:Nat->Prop}{R:aa->Value->Prop}{h:Nat->aj}{β:Nat->bd}{w w' w'':World}{B B':Nat}
def cc.I{l:Nat}{r:Loop}(hl:w.heap[l]? =some (.loop r))(hB:B<=l)(o:Obj):cc B w (w.putObj l o):=
 ⟨rfl,rfl,rfl,aB,λb _=>by
  by_cases hb:b=l
  ·subst hb;exact .inr ⟨hB,.inl ⟨_,hl⟩⟩
  ·exact .inl (oe hb)⟩
def cc.abb{l:Nat}{d:Option (List Deferred)}(hl:w.heap[l]? =some (.deferred d))(hB:B<=l)(o:Obj):cc B w (w.putObj l o):=
 ⟨rfl,rfl,rfl,aB,λb _=>by
  by_cases hb:b=l
  ·subst hb;exact .inr ⟨hB,.inr ⟨_,hl⟩⟩
  ·exact .inl (oe hb)⟩
def gg.am8(m:gg lo d0 h β w ds):∀D,({target:=.collected D,args:= #[]}:Deferred)∈ds->D<w.heap.size:=by
 intro D hD;obtain⟨hb,l,rfl,_,_,h⟩:=m;rcases List.mem_append.1 hD with hD |hD
 ·obtain⟨D',hD',e⟩:=List.mem_map.1 hD;injection e with e1 _;injection e1 with e2;subst e2;exact(Array.getElem?_eq_some_iff.1 (h _ hD').2.1).1
 ·exact absurd rfl (hb _ hD D)
def gg.V(m:gg lo d0 h β w ds)(q:cc B w w')(cC:∀D,({target:=.collected D,args:= #[]}:Deferred)∈ds->D<B):gg lo d0 h β w' ds:=by
 obtain⟨hb,l,rfl,hm,hn,h⟩:=m;refine⟨hb,l,rfl,hm,hn,λD hD=>⟨(h D hD).1,?_,(h D hD).2.2⟩⟩;rcases q.g D (Array.getElem?_eq_some_iff.1 (h D hD).2.1).1 with h1 | ⟨h1,_⟩
 ·exact h1.trans (h D hD).2.1
 ·have:=cC D (List.mem_append.2 (.inl (List.mem_map.2 ⟨D,hD,rfl⟩)));omega
def bA.U{E:bD}{a:Act}(r:bA E Z n lo d0 s β a w)(q:cc B w w')(cC:∀D,({target:=.collected D,args:= #[]}:Deferred)∈a.defers->D<B):bA E Z n lo d0 s β a w':=
 ⟨r.f.I q,λt=>ax.U q _ _ _ (r.m t),r.p,r.z.V q cC⟩
structure mh(m B:Nat)(K:(Nat->aj)->(Nat->bd)->World->Prop):Prop where
 e:∀{h β w},K h β w->B<=w.heap.size
 d:∀{h β w h' β' w'},K h β w->dF h β w h' β' w'->K h' β' w'
 c:∀{h β w w'},K h β w->cc B w w'->K h β w'
 f:∀{h β w δ ids},K h β w->(∀i,i<m->ids[i]? =some i)->(∀i g,i<m->δ i g=0->g=0)->K (jF h δ ids) (eV β ids) w
def dZ.I(k:dZ m h0 β0 w0 h β w)(q:cc w0.heap.size w w'):dZ m h0 β0 w0 h β w':=
 ⟨q.i.trans k.f,q.j.trans k.n,q.m.trans k.p,eb k.c q.f,λb hb hn=>by
  rcases q.g b (dJ hb k.c)with h | ⟨h,_⟩
  ·exact h.trans (k.d b hb hn)
  ·omega,k.r,k.u⟩
def dZ.U(hn:xV h0):mh m w0.heap.size (λh β w=>dZ m h0 β0 w0 h β w) := {
 e:=λk=>k.c
 d:=λk s=>k.Jv s.U
 c:=λk q=>k.I q
 f:=λk h1 h2=>k.V hn h1 h2 }
end
end
end Go.AH
