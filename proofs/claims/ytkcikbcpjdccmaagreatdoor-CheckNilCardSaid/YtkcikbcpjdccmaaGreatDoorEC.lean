/- A part of the proof. -/
import Derived.Test.YtkcikbcpjdccmaaGreatDoorEB
set_option linter.all false
namespace Go.AH
open Go Go.RowKit
noncomputable section
variable{O:Nat->Prop}{ops:Array Oper}{args:List aa}{w:World}{R:Ending->World->Prop}{F:Fence}{k:Nat}{o:Oper}{Q:Exit->Act->World->Prop}{a b:Code}{ol:List Oper}{j kn:Nat}{x:Operand}{p:Nat->Prop}{c:Code}{l m:Nat}{β':Nat->bd}{ps:List Nat}{v:aa}{fn:Func}{vs:List aa}{ao:List aj}{out:aC}{w':World}{f:FuncId}{bk:Array Value}{t:TypeId}{β:Nat->bd}{L':dk}{key:Nat}{os:List aj}{y:aU×List aa×List aj}{fuel:Nat}{r:aU×List aa×List aj}{P:Program}{e:TypeId}{ts:List Nat}{ob:Nat->aj}{cl:Call}{Z:Nat->Prop}{ty:TypeId}
section
variable{E:bD}{P:Program}{Z:Nat->Prop}{n lo m:Nat}{d0:fR}{s:bu}{β:Nat->bd}{w w':World}{a:Act}{h h0:Nat->aj}{β0:Nat->bd}{w0:World}{K:(Nat->aj)->(Nat->bd)->World->Prop}{B:Nat}
def z8(E:bD)(Z:Nat->Prop)(s:bu)(β:Nat->bd)(w:World):aU->Exit->Prop
 | .b,.normal=>True
 | .a i,.exit j=>i=j
 | .d i,.goto j=>i=j
 | .c,.ret=>True
 | .e v,.panic chain=>v.gx=true/\∃y,chain=[{v:=y,recovered:=false}]/\ax E.a w (aY Z s.a β) v bh y
 |_,_=>False
def qf(s:bu):Prop:=∀i,s.c<=i->s.a i=.c
def px(E:bD)(Z:Nat->Prop)(n lo:Nat)(d0:fR)(K:(Nat->aj)->(Nat->bd)->World->Prop)(x:aU×bu):Exit->Act->World->Prop:=λe a w=>
 ∃β,bA E Z n lo d0 x.2 β a w/\qf x.2/\K x.2.a β w/\z8 E Z x.2 β w x.1 e
def JD(hh:w'.heap=w.heap):cz w w' O O:=⟨by rw[hh];exact bj _,λ_ _ _=>by rw[hh],λ_ _ h=>h⟩
def cY.V{T:TypeId->bz}{G:Nat->aa}(cx:cY T G Z h β w)(hh:w'.heap=w.heap):cY T G Z h β w' := {
 c:=λi=>(cx.c i).I (JD hh) (λ_ _ h=>h) (λ_=>by rw[hh])
 p:=cx.p
 d:=cx.d
 m:=λb hb=>by rw[hh];exact cx.m b hb
 f:=cx.f
 n:=λg=>dU.D (JD hh) (cx.n g) }
def bA.am9(r:bA E Z n lo d0 s β a w)(hh:w'.heap=w.heap):bA E Z n lo d0 s β a w':=⟨r.f.V hh,λt=>ax.D (JD hh) _ _ _ _ (λ_ _ h=>h) (r.m t),r.p,r.z.amU hh⟩
def CF:Op->Bool | .defer _=>true |_=>false
def jU(n:Nat)(ops:Array Oper):Bool:=(ops.toList.all λo=>match o.dst with |some d=>Nat.blt d n |none=>true) &&ops.toList.all λo=> !CF o.op
def CG(h:jU n ops=true):∀(i:Nat)(t:Tmp),(ops[i]?).bind (λo:Oper=>o.dst)=some t->t<n:=by
 intro i t ht;unfold jU at h;rw[au,dS]at h
 replace h:=h.1
 cases ho:ops[i]? with
 |none=>rw[ho]at ht;cases ht
 |some o=>
  rw[ho]at ht;have h1:=h o (by
   have:ops.toList[i]? =some o:=by rw[fu];exact ho
   exact eg this)
  have ht:o.dst=some t:=ht;rw[ht]at h1;exact ft h1
def jG:Code->Bool
 | .seq a b=>jG a &&jG b
 | .cond _ a b=>jG a &&jG b
 | .block _ b=>jG b
 | .loop b=>jG b
 | .scope _=>false
 | .rangeFunc _ _ _ _=>false
 |_=>true
def dI(mode:FuncId->List Bool)(dyn:Nat->Bool)(n:Nat):Code->Bool
 | .region id ops draw=>jU n ops && (!draw ||dyn id ||xP mode gb ops.toList)
 | .seq a b=>dI mode dyn n a &&dI mode dyn n b
 | .cond _ a b=>dI mode dyn n a &&dI mode dyn n b
 | .block _ b=>dI mode dyn n b
 | .loop b=>dI mode dyn n b
 | .scope b=>dI mode dyn n b
 | .rangeFunc _ ps a b=>(ps.toList.all (Nat.blt · n)) && (dI mode dyn n a &&dI mode dyn n b) && (jG a &&jG b)
 |_=>true
structure CH(F:Fence)(P:Program):Prop where
 a:∀f,F.fn f
 b:F.depth=none
 c:∀{n:Nat}{f:FuncId}{args:Array Value}{w:World}{R:Ending->World->Prop},Calls P f args w R->CallsIn F n P f args w R
 d:∀{n:Nat}{row:String}{args:Array Value}{w:World}{R:Value->World->Prop},Rows P row args w R->RowsIn F n P row args w R
def abc{n:Nat}{row:String}{args:Array Value}{w:World}{R:Value->World->Prop}(h:Rows P row args w R):RowsIn Fence.wide n P row args w R:=
 λc cs _=>let⟨v,w',r,s⟩:=h c cs;⟨v,w',r,stepsIn_wide.2 s⟩
def Ps:CH Fence.wide P:=⟨λ_=>trivial,rfl,λh=>callsIn_wide.2 h,λh=>abc h⟩
def am_(l:Nat):CH (Fence.wide.inRound l) P:=⟨λ_=>trivial,rfl,λh=>CallsIn.inRound l (callsIn_wide.2 h),λh=>abc h⟩
def abd(hF:CH F P)(cP:CF o.op=false){K K':Act->World->Prop}(hK:∀a w,K a w->K' a w)(h:o.wp P a w K Q):o.wpIn F k P a w K' Q:=by
 have hs:o.semAt F.round a.eval=execOp a.eval o:=X0 _ _ _ (λc hc=>by rw[hc]at cP;cases cP);have hd:F.depth.isSome=true->1<=k:=λhh=>by rw[hF.b]at hh;cases hh
 refine⟨λf _=>hF.a f,?_⟩;rw[hs];unfold Oper.wp at h;cases hr:(execOp a.eval o).run P w with
 |ok x w'=>
  rw[hr]at h;cases x with
  |value v=>exact hK _ _ h
  |skip=>exact hK _ _ h
  |defer d=>exact hK _ _ h
  |enter f args=>
   refine⟨hd,(hF.c h).mono λe w' he=> ?_⟩;cases e with
   |returned v=>exact hK _ _ he
   |panicked chain=>exact he
   |outgrown=>exact he
  |row r args=>exact⟨hd,(hF.d h).mono λv w' hv=>hK _ _ hv⟩
  |_=>exact h.elim
 |halt r w'=>rw[hr]at h;cases r<;>exact h
def FF{F:Fence}{k:Nat}(hF:CH F P){ops:Array Oper}(cP:∀o∈ops.toList,CF o.op=false){Q:Exit->Act->World->Prop}(hq:¬LetsOut Q):∀(l:List Nat)(a:Act)(w:World),wpOps P ops Q l a w->wpOpsIn F k P ops Q l a w
 | [],_,_,h=>h
 |i::rest,a,w,h=>by
  unfold wpOps at h;unfold wpOpsIn;cases ho:ops[i]? with
  |none=>rw[ho]at h;exact FF hF cP hq rest a w h
  |some o=>
   rw[ho]at h;simp only at h⊢;split
   ·rename_i hw;rw[if_pos hw]at h;rcases h with h |h
    ·refine abd hF (cP o ?_) (λa w h=>FF hF cP hq rest a w h) h;have:ops.toList[i]? =some o:=by rw[fu];exact ho
     exact eg this
    ·exact absurd h.2 hq
   ·rename_i hw;rw[if_neg hw]at h;exact⟨λf _=>hF.a f,FF hF cP hq rest _ w h⟩
def abe(x:aU×bu):¬LetsOut (px E Z n lo d0 K x):=by rintro⟨a,w,β,_,_,_,hx⟩;obtain⟨ex,s1⟩:=x;cases ex<;>exact hx
def abf{q:Prop}{a b:Bool}(h:q->(a &&b)=true):q->a=true:=λhq=>(au _ _▸h hq).1
def abg{q:Prop}{a b:Bool}(h:q->(a &&b)=true):q->b=true:=λhq=>(au _ _▸h hq).2
def am'(h:F=Fence.wide\/∃l,F=Fence.wide.inRound l):CH F P:=by
 rcases h with rfl | ⟨l,rfl⟩
 ·exact Ps
 ·exact am_ l
def Pt{hn:iP}{ol:List Oper}{base:Nat}{v:aa}{s':bu}:∀(l:List Nat)(s:bu),(c8 E true hn ol base l s).D=some (.b v s')->False
 | [],s,h=>by simp[c8,af.D]at h
 |j::l,s,h=>by
  rw[c8]at h;obtain⟨g,e1,e2⟩:=cm h;cases g with
  |a s1=>exact Pt l s1 e2
  |b v1 s1=>
   cases ho:ol[j]? with
   |none=>unfold nD at e1;rw[ho]at e1;simp[af.D]at e1
   |some o=>
    rw[z7 ho]at e1;cases hq:pw E hn ol base j o s.b s.a with
    |none=>rw[hq]at e1;cases e1
    |some p=>rw[hq]at e1;simp at e1
def ana(h:I' ol=some j):j<ol.length/\Ff ol j=true:=by unfold I' at h;have h1:=List.find?_some h;have h2:=List.mem_of_find?_eq_some h;exact⟨by simpa using h2,h1⟩
def anb{hn:iP}{base:Nat}{s s':bu}(h:(vQ E hn ol base s).D=some (.a s')):(c8 E true hn ol base (List.range ol.length) s).D=some (.a s'):=by
 unfold vQ at h;split at h
 ·simp[af.D]at h
 ·split at h
  ·simp[af.D]at h
  ·obtain⟨g,e1,e2⟩:=cm h;cases g with
   |b v s1=>simp[af.D]at e2
   |a sN=>
    simp only at e2;obtain⟨g,e3,e4⟩:=cm e2;cases g with
    |b v s1=>simp[af.D]at e4
    |a s1=>exact e4
def abh(hF:CH F P)(hT:cH P E.a)(hC:∀g,ck E.a E.b P g (E.f g)){id:Nat}{draw:Bool}(hd:jU n ops=true)(aKG:draw=true->E.g id=true\/xP E.e gb ops.toList=true){x:aU×bu}(he:(cy E m (.region id ops draw) s).D=some x)
  (hK:mh m B K)(r:bA E Z n lo d0 s β a w)(hf:qf s)(hw:K s.a β w):(Code.region id ops draw).wpIn F kn P (px E Z n lo d0 K x) a w:=by
 have cP:∀o∈ops.toList,CF o.op=false:=λo ho=>by unfold jU at hd;rw[au,dS,dS]at hd;simpa using hd.2 o ho
 rw[cy]at he;split at he
 ·simp[af.D]at he
 ·rename_i bH;obtain⟨x1,e1,e2⟩:=cm he;have hd':=CG hd;have ec:∀j i,gN s.c j i->s.a i=.c:=λj i hi=>hf i (by unfold gN at hi;omega);have fresh:∀(s':bu),(∀i,s.a i=.c->(∀j,j<ops.size->¬gN s.c j i)->s'.a i=.c)->∀i,s.c+64*ops.toList.length<=i->s'.a i=.c:=by intro s' hs' i hi;have hl:ops.toList.length=ops.size:=aB;exact hs' i (hf i ab) (λj hj hc=>by unfold gN at hc;omega)
  cases draw with
  |false=>
   have hl:ops.toList.length=ops.size:=aB;refine cT (FF hF cP (abe x) _ _ _ ?_);rw[hl]at e1;refine JB hT hC hd' (List.range ops.size) s β a w x1 r M' (λj _ i hi=>ec j i hi) e1 ⟨λs' β' a' w' hx r' st' d' n'=> ?_,λv s' β' a' w' y hx gV r' st' hy d' n'=> ?_⟩
   ·subst hx;simp only[af.D,Option.some.injEq]at e2;subst e2;exact⟨β',⟨r'.f,r'.m,r'.p,r'.z⟩,fresh s' (λi hi hj=>d' i hi (λj nr=>hj j (by simpa using nr))),hK.d hw st',trivial⟩
   ·subst hx;simp only[af.D,Option.some.injEq]at e2;subst e2;exact⟨β',⟨r'.f,r'.m,r'.p,r'.z⟩,fresh s' (λi hi hj=>d' i hi (λj nr=>hj j (by simpa using nr))),hK.d hw st',gV,y,rfl,hy⟩
  |true=>
   have hl:ops.toList.length=ops.size:=aB;obtain⟨hn,Yv⟩:∃hn,hn=Ja E (true &&E.g id) ops.toList s:=⟨_,rfl⟩
   rw[<-Yv]at e1 bH;have ajP:xP E.e hn ops.toList=true:=by
    cases hq:E.g id with
    |true=>rw[hq]at bH;simpa using bH
    |false=>
     rw[hq]at Yv;rw[Yv];rcases aKG rfl with h |h
     ·rw[hq]at h;cases h
     ·exact h
   refine wpIn_region_draw (λt=>FF hF cP (abe x) _ _ _ ?_);have e1':x1=x1/\((c8 E true hn ops.toList s.c (List.range ops.toList.length) s).D=some x1\/(vQ E hn ops.toList s.c s).D=some x1):=⟨rfl,by
    split at e1
    ·exact .inr e1
    ·exact .inl e1⟩
   clear e1
   replace e1:(∃s',x1=.a s'/\(c8 E true hn ops.toList s.c (List.range ops.toList.length) s).D=some (.a s'))\/(∃v s',x1=.b v s'/\(vQ E hn ops.toList s.c s).D=some (.b v s')):=by
    rcases e1'.2 with h |h
    ·cases x1 with
     |a s'=>exact .inl ⟨s',rfl,h⟩
     |b v s'=>exact(Pt _ _ h).elim
    ·cases x1 with
     |a s'=>exact .inl ⟨s',rfl,anb h⟩
     |b v s'=>exact .inr ⟨v,s',rfl,h⟩
   have r1:bA E Z n lo d0 s β a {w with drawn:=w.drawn+1}:=r.am9 rfl;have iM:K s.a β {w with drawn:=w.drawn+1}:=hK.c hw (cc.Z8 rfl rfl rfl rfl);have Yw:(List.range ops.size).filter (λi=> !(Array.replicate ops.size false).getD i true)=List.range ops.size:=by
    rw[Ex];intro i hi;have:i<ops.size:=by simpa using hi
    simp[fh,this]
   have key:∀md,wpAny P md ops (px E Z n lo d0 K x) ops.size (Array.replicate ops.size false) a {w with drawn:=w.drawn+1}:=by
    intro md;rcases e1 with⟨s1,rfl,e1⟩ | ⟨v,s1,rfl,e1⟩
    ·rw[hl]at e1;refine amZ hT hC hd' ajP md ops.size _ s β a _ _ r1 aB (λi o ho gS=> ?_) (by rw[Yw];simp) (λj _ i hi=>ec j i hi) (by rw[Yw];exact e1) (λs' β' a' w' hx r' st' d' n'=> ?_)
     ·have hi:=(Array.getElem?_eq_some_iff.1 ho).1;simp[fh,hi]at gS
     ·cases hx;simp only[af.D,Option.some.injEq]at e2;subst e2;exact⟨β',⟨r'.f,r'.m,r'.p,r'.z⟩,fresh _ d',hK.d iM st',trivial⟩
    ·unfold vQ at e1;split at e1
     ·simp[af.D]at e1
     ·rename_i j hj;obtain⟨pT,Yt⟩:=ana hj;split at e1
      ·simp[af.D]at e1
      ·rename_i o ho;rw[fu]at ho;rw[hl]at pT;obtain⟨g,e3,e4⟩:=cm e1;cases g with
       |b v s1=>simp[af.D]at e4
       |a sN=>
        simp only at e4;obtain⟨g,e5,e6⟩:=cm e4;cases g with
        |a s1=>exact(Pt _ _ e6).elim
        |b v2 s2=>
         simp only[af.D,Option.some.injEq,gA.b.injEq]at e6;obtain⟨rfl,rfl⟩:=e6;have aKH:(pr ops.toList j).filter (λi=> !(Array.replicate ops.size false).getD i true)=pr ops.toList j:=by
          rw[Ex];intro i hi;have:i<ops.size:=by simpa using (FE.1 hi).1
          simp[fh,this]
         refine am7 hT hC hd' ajP md ho Yt ops.size _ s sN β a _ r1 aB (λi o ho gS=> ?_) (by rw[Yw];simp) (by simp[fh,pT]) (λj _ i hi=>ec j i hi) (by rw[aKH];exact e3) e5 (λβ' a' w' y gV r' st' hy d' n'=> ?_)
         ·have hi:=(Array.getElem?_eq_some_iff.1 ho).1;simp[fh,hi]at gS
         ·simp only[af.D,Option.some.injEq]at e2;subst e2;exact⟨β',⟨r'.f,r'.m,r'.p,r'.z⟩,fresh _ d',hK.d iM st',gV,y,rfl,hy⟩
   unfold Region.schedule;split
   ·exact wpAny_sound ops.size _ _ a _ (key _)
   ·exact wpAny_sound ops.size _ _ a _ (key _)
def abi(f:Nat->aa):∀(l:List Nat)(t:Nat),fy .m (l.zip (l.map f)) t=.m\/fy .m (l.zip (l.map f)) t=f t
 | [],t=>.inl rfl
 |i::l,t=>by
  rw[lX,List.zip_cons_cons,fy];split
  ·rename_i hb;exact .inr (by rw[aV hb])
  ·exact abi f l t
def abj(keep:List Nat)(m:Nat)(s:bu):∀i,i<m->(mM keep m s)[i]? =some i:=λi hi=>Fx _ m _ hi
def anc(i g:Nat)(hi:i<m)(h:zN m i g=0):g=0:=by unfold zN at h;have:Nat.blt i m=true:=Ey hi;rw[this]at h;simp only at h;omega
def sx(keep:List Nat)(r:bA E Z n lo d0 s β a w):bA E Z n lo d0 (dx keep (jS keep m s) (gK keep m s)) (eV β (mM keep m s)) a w := {
 f:=r.f.U (CA _ _) (λb hb=>.inl hb) r.f.m (λi _ mi=>r.f.f i mi)
 m:=λt=>by
  have hO:∀b,aY Z (jF s.a (zN m) (mM keep m s)) (eV β (mM keep m s)) b->aY Z s.a β b:=su (λb hb=>.inl hb);show ax _ _ _ (fy .m (keep.zip (keep.map λk=>se s.a (zN m) (mM keep m s) (s.b k))) t) _ _;rcases abi (λk=>se s.a (zN m) (mM keep m s) (s.b k)) keep t with h1 |h1
  ·rw[h1];exact trivial
  ·rw[h1];exact(r.m t).O8 hO
 p:=r.p
 z:=r.z.amV }
def sy(keep:List Nat)(vs:List aa)(os:List aj):qf (dx keep vs os):=λi hi=>by show a_ os i=.c;rw[oC,kY hi];rfl
def sz(hK:mh m B K)(keep:List Nat)(k:K s.a β w):K (dx keep (jS keep m s) (gK keep m s)).a (eV β (mM keep m s)) w:=
 hK.f k (abj keep m s) (λi g hi h=>anc i g hi h)
def Pu{mode:FuncId->List Bool}{dyn:Nat->Bool}{l:Nat}:∀{c rest:Code},findLabel c l=some rest->dI mode dyn n c=true->dI mode dyn n rest=true
 | .seq a b,rest,h,hc=>by
  rw[dI,au]at hc;unfold findLabel at h;split at h
  ·rename_i r hr;simp only[Option.some.injEq]at h;subst h;rw[dI,au];exact⟨Pu hr hc.1,hc.2⟩
  ·exact Pu h hc.2
 | .label l',rest,h,hc=>by
  unfold findLabel at h;split at h
  ·simp only[Option.some.injEq]at h;subst h;rfl
  ·cases h
 | .skip,_,h,_=>by simp[findLabel]at h
 | .region ..,_,h,_=>by simp[findLabel]at h
 | .cond ..,_,h,_=>by simp[findLabel]at h
 | .block ..,_,h,_=>by simp[findLabel]at h
 | .loop ..,_,h,_=>by simp[findLabel]at h
 | .scope ..,_,h,_=>by simp[findLabel]at h
 | .rangeFunc ..,_,h,_=>by simp[findLabel]at h
 | .exit ..,_,h,_=>by simp[findLabel]at h
 | .goto ..,_,h,_=>by simp[findLabel]at h
 | .ret,_,h,_=>by simp[findLabel]at h
 | .refuse ..,_,h,_=>by simp[findLabel]at h
def Pv{l:Nat}:∀{c rest:Code},findLabel c l=some rest->SizeOf.sizeOf rest<=SizeOf.sizeOf c
 | .seq a b,rest,h=>by
  unfold findLabel at h;split at h
  ·rename_i r hr;simp only[Option.some.injEq]at h;subst h;have:=Pv hr;simp;omega
  ·have:=Pv h;simp;omega
 | .label l',rest,h=>by
  unfold findLabel at h;split at h
  ·simp only[Option.some.injEq]at h;subst h;simp
  ·cases h
 | .skip,_,h=>by simp[findLabel]at h
 | .region ..,_,h=>by simp[findLabel]at h
 | .cond ..,_,h=>by simp[findLabel]at h
 | .block ..,_,h=>by simp[findLabel]at h
 | .loop ..,_,h=>by simp[findLabel]at h
 | .scope ..,_,h=>by simp[findLabel]at h
 | .rangeFunc ..,_,h=>by simp[findLabel]at h
 | .exit ..,_,h=>by simp[findLabel]at h
 | .goto ..,_,h=>by simp[findLabel]at h
 | .ret,_,h=>by simp[findLabel]at h
 | .refuse ..,_,h=>by simp[findLabel]at h
def ub(h:∃k,p k):∃k,p k/\∀j,p j->k<=j:=by
 obtain⟨k,hk⟩:=h;induction k using Nat.strongRecOn with
 |_ k ih=>
  by_cases hc:∃j,j<k/\p j
  ·obtain⟨j,hj,hp⟩:=hc;exact ih j hj hp
  ·exact⟨k,hk,λj hj=>by
    rcases od j k with h |h
    ·exact absurd ⟨j,h,hj⟩ hc
    ·exact h⟩
def uc{ι:Type}(I:ι->Act->World->Prop)(μ:ι->Nat)(i0:ι)(h0:I i0 a w)
  (round:∀i a w,I i a w->c.wpIn F kn P (Exit.then (λa' w'=>∃j,I j a' w'/\μ j<μ i) Q) a w):(Code.loop c).wpIn F kn P Q a w:=by
 classical
 have ex:∀a w,(∃i,I i a w)->∃k,(∃i,I i a w/\μ i=k)/\∀j,(∃i,I i a w/\μ i=j)->k<=j:=λa w ⟨i,hi⟩=>ub ⟨μ i,i,hi,rfl⟩
 let M:Act->World->Nat:=λa w=>if hx:∃i,I i a w then(ex a w hx).choose else 0
 refine wpIn_loop (λa w=>∃i,I i a w) M ⟨i0,h0⟩ (λa w hx=> ?_);obtain⟨⟨i,hi,hm⟩,_⟩:=(ex a w hx).choose_spec;have hM:M a w=μ i:=by show(if hx:_ then _ else _)=_;rw[dif_pos hx];exact hm.symm
 refine tC (round i a w hi) (λe a' w' hq=> ?_);cases e with
 |normal=>
  obtain⟨j,hj,cC⟩:=hq;have hx':∃i,I i a' w':=⟨j,hj⟩
  refine⟨hx',?_⟩;have Ii:=(ex a' w' hx').choose_spec.2 (μ j) ⟨j,hj,rfl⟩;have hM':M a' w'=(ex a' w' hx').choose:=by show(if hx:_ then _ else _)=_;rw[dif_pos hx']
  rw[hM,hM'];omega
 |_=>exact hq
def ane(E:bD)(m key:Nat)(μ:List aa->List aj->Nat)(vs:List aa)(os:List aj)(r:aU×List aa×List aj):aU×List aa×List aj->Prop
 | (.b,vs',os')=>μ vs' os'<μ vs os/\(E.d m key vs' os').D=some r
 |y=>y=r
def abk(E:bD)(m:Nat)(b:Code):Prop:=∃μ:List aa->List aj->Nat,∀vs os r,(E.d m (cF b) vs os).D=some r->∃y,(cB E m (cF b) b vs os).D=some y/\ane E m (cF b) μ vs os r y
def anf(E:bD)(m key:Nat)(rest:List aa)(r:aU×List aa×List aj):aU×List aa×List aj->Prop
 | (.b,vs',os')=>(E.d m key (.q rest::vs') os').D=some r
 |y=>y=r
def abl(E:bD)(m:Nat)(ps:List Nat)(assign body:Code):Prop:=∀items vs os r,(E.d m (cF assign) (.q items::vs) os).D=some r->match items with
 | []=>r=(.b,vs,os)
 |x::rest=>∃y,(oA E m ps assign body x vs os).D=some y/\anf E m (cF assign) rest r y
def ang{ι:Type}{rest:Code}(I:ι->Act->World->Prop)(μ:ι->Nat)(hf:findLabel c l=some rest)
  (first:c.wp P (Exit.jump l (λa' w'=>∃j,I j a' w') Q) a w)(round:∀i a w,I i a w->rest.wp P (Exit.jump l (λa' w'=>∃j,I j a' w'/\μ j<μ i) Q) a w):(Code.scope c).wp P Q a w:=by
 classical
 have ex:∀a w,(∃i,I i a w)->∃k,(∃i,I i a w/\μ i=k)/\∀j,(∃i,I i a w/\μ i=j)->k<=j:=λa w ⟨i,hi⟩=>ub ⟨μ i,i,hi,rfl⟩
 let M:Act->World->Nat:=λa w=>if hx:∃i,I i a w then(ex a w hx).choose else 0
 refine wp_scope_jumps l (λa w=>∃i,I i a w) M hf first (λa w hx=> ?_)
 obtain⟨⟨i,hi,hm⟩,_⟩:=(ex a w hx).choose_spec;have hM:M a w=μ i:=by show(if hx:_ then _ else _)=_;rw[dif_pos hx];exact hm.symm
 refine wp_mono (round i a w hi) (λe a' w' hq=> ?_);cases e with
 |goto l'=>
  obtain⟨hl,j,hj,cC⟩:=hq;have hx':∃i,I i a' w':=⟨j,hj⟩
  refine⟨hl,hx',?_⟩;have Ii:=(ex a' w' hx').choose_spec.2 (μ j) ⟨j,hj,rfl⟩;have hM':M a' w'=(ex a' w' hx').choose:=by show(if hx:_ then _ else _)=_;rw[dif_pos hx']
  rw[hM,hM'];omega
 |_=>exact hq
def anh(E:bD)(m l key:Nat)(μ:List aa->List aj->Nat)(vs:List aa)(os:List aj)(r:aU×List aa×List aj):aU×List aa×List aj->Prop
 | (.d l',vs',os')=>l'=l/\μ vs' os'<μ vs os/\(E.d m key vs' os').D=some r
 |y=>y=r
def abm(E:bD)(m l:Nat)(rest:Code):Prop:=∃μ:List aa->List aj->Nat,∀vs os r,(E.d m (kD l rest) vs os).D=some r->(∀l',r.1≠ .d l')/\∃y,(mN E m (kD l rest) rest vs os).D=some y/\anh E m l (kD l rest) μ vs os r y
def kF(E:bD)(m:Nat):Code->Prop
 | .seq a b=>kF E m a/\kF E m b
 | .cond _ a b=>kF E m a/\kF E m b
 | .block _ b=>kF E m b
 | .loop b=>abk E m b/\kF E m b
 | .scope b=>kF E m b/\∀l rest,findLabel b l=some rest->abm E m l rest
 | .rangeFunc _ ps a b=>abl E m ps.toList a b/\∀m',kF E m' a/\kF E m' b
 |_=>True
def gO(l:Nat)(o:Obj):(Nat->aj)->(Nat->bd)->World->Prop:=λh β w=>w.heap[l]? =some o/\∀i,cQ h β i->(β i).a≠l
def gO.I{o:Obj}(k:gO l o h β w):l<w.heap.size:=(Array.getElem?_eq_some_iff.1 k.1).1
def gO.D{o:Obj}{m:Nat}:mh m (l+1) (gO l o) := {
 e:=λk=>k.I
 d:=λk s=>by
  have cC:=k.I;refine⟨(s.f l cC k.2).trans k.1,λi mi he=> ?_⟩;rcases s.c i mi with⟨j,mj,ej⟩ |ej
  ·exact k.2 j mj (ej.trans he)
  ·omega
 c:=λk q=>⟨by
  rcases q.g l k.I with h | ⟨h,_⟩
  ·exact h.trans k.1
  ·omega,k.2⟩
 f:=λk _ _=>⟨k.1,λi mi he=>by
  obtain⟨j,_,mj,ej⟩:=nE mi;exact k.2 j mj (ej.symm.trans he)⟩ }
def mh.D{m1 m2 B1 B2:Nat}{K1 K2:(Nat->aj)->(Nat->bd)->World->Prop}(a:mh m1 B1 K1)(b:mh m2 B2 K2)(hm:m1<=m2)(hB:B1<=B2):mh m2 B2 (λh β w=>K1 h β w/\K2 h β w) := {
 e:=λk=>b.e k.2
 d:=λk s=>⟨a.d k.1 s,b.d k.2 s⟩
 c:=λk q=>⟨a.c k.1 (q.D hB),b.c k.2 q⟩
 f:=λk h1 h2=>⟨a.f k.1 (λi hi=>h1 i ab) (λi g hi h=>h2 i g ab h),b.f k.2 h1 h2⟩ }
def dZ.ani{h':Nat->aj}(k:dZ m h β w h' β' w')(o:Obj)(hl:l<w.heap.size):dZ m h β (w.putObj l o) h' β' (w'.putObj l o) := {
 f:=k.f
 n:=k.n
 p:=k.p
 c:=by simpa using k.c
 d:=λb hb hn=>by
  by_cases e:b=l
  ·subst e;rw[zn hl,zn (dJ hl k.c)]
  ·rw[oe e,oe e];exact k.d b (by simpa using hb) hn
 r:=λi hi=>by have:=k.r i hi;simpa using this
 u:=k.u }
def bA.abn(r:bA E Z n lo d0 s β a w){rc:Loop}(hl:w.heap[l]? =some (.loop rc))(o:Obj):bA E Z n lo d0 s β a (w.putObj l o):=by
 have q:cc 0 w (w.putObj l o):=cc.I hl (ik _) o;obtain⟨mH,ld,NI,aKI,cP,Yx⟩:=r.z;refine⟨r.f.I q,λt=>ax.U q _ _ _ (r.m t),r.p,mH,ld,NI,aKI,cP,λD hD=> ?_⟩;obtain⟨h1,h2,h3⟩:=Yx D hD;refine⟨h1,?_,h3⟩;have bL:D≠l:=λe=>by subst e;rw[hl]at h2;cases h2
 exact(oe bL).trans h2
structure sA(O0 R:Nat->Prop)(X:World)(R':Nat->Prop)(Y:World):Prop where
 a:X.heap.size<=Y.heap.size
 e:∀b,b<X.heap.size->¬O0 b->¬R b->Y.heap[b]? =X.heap[b]?
 c:∀b,R' b->R b\/X.heap.size<=b
 d:∀b,R' b->R b\/b<Y.heap.size
def JE(T:TypeId->bz)(kn:Nat)(P:Program)(gf:Nat)(lb:Array Value)(items:List aa)(O0:Nat->Prop)(w:World):Prop:=
 ∀(l:Nat)(J:Nat->(Nat->Prop)->World->Prop)(Jx:World->Prop)(W:World),cc w.heap.size w W->
  (∀k R X Y,J k R X->cc W.heap.size X Y->J k R Y)->(∀X Y,Jx X->cc W.heap.size X Y->Jx Y)->
  (∀k R X vs args,items[k]? =some (.q vs)->J k R X->aF T X (λb=>O0 b\/R b) vs bh args->
   YieldAt Fence.wide (kn-1) P l args.toArray X λe Y=>(e=.returned (.bool true)/\∃R',J (k+1) R' Y/\sA O0 R X R' Y)\/(e=.returned (.bool false)/\Jx Y/\∃R',sA O0 R X R' Y))->
  J 0 (λb=>w.heap.size<=b/\b<W.heap.size) W->
  CallsIn Fence.wide kn P gf (#[.func (.yield l) #[] #[]]++lb) W λe Y=>(∃v,e=.returned v)/\((∃R,J items.length R Y)\/Jx Y)
def ud(E:bD)(P:Program):Prop:=∀gf eN items,(E.i gf eN).D=some items->
 (∀args w,(callFunc gf args).run P w=.ok (.enter gf args) w)/\
 ∀kn O w(lb:Array Value),(∀b,O b->b<w.heap.size)->(∀g,dU E.a w O (E.b g) g)->aF E.a w O eN bh lb.toList->JE E.a kn P gf lb items O w
def anj(h:∀f eN,E.i f eN=.d):ud E P:=λgf eN items hi=>by rw[h]at hi;simp[af.D]at hi
def Pw(E:bD)(P:Program)(Z:Nat->Prop)(n lo:Nat)(d0:fR)(c:Code):Prop:=
 ∀(F:Fence)(kn m B:Nat)(K:(Nat->aj)->(Nat->bd)->World->Prop),(F=Fence.wide\/∃l,F=Fence.wide.inRound l)->mh m B K->lo<=B->∀(s:bu)(x:aU×bu)(β:Nat->bd)(a:Act)(w:World),dI E.e E.g n c=true->(F≠Fence.wide\/d0.a=false->jG c=true)->kF E m c->(cy E m c s).D=some x->
  bA E Z n lo d0 s β a w->qf s->K s.a β w->c.wpIn F kn P (px E Z n lo d0 K x) a w
def ank:aU->Option Code
 | .c=>some .ret | .a i=>some (.exit i) |_=>none
def abo{T:TypeId->bz}{O:Nat->Prop}{R:aa->Value->Prop}:∀(ps:List Nat)(vs:List aa)(args:List Value)(s:Nat->aa)(tm:Array Value),(∀p∈ps,p<tm.size)->qd T w O R s {tmps:=tm,defers:=[]}->aF T w O vs R args->
  qd T w O R (Fh s ps vs) {tmps:=(ps.zip args).foldl (λt p=>t.setIfInBounds p.1 p.2) tm,defers:=[]}/\((ps.zip args).foldl (λt p=>t.setIfInBounds p.1 p.2) tm).size=tm.size
 | [],vs,args,s,tm,_,hs,_=>by refine⟨?_,rfl⟩;cases vs<;>exact hs
 |p::ps,[],args,s,tm,_,hs,h=>by have:args=[]:=h;subst this;exact⟨hs,rfl⟩
 |p::ps,v::vs,args,s,tm,hp,hs,h=>by obtain⟨y,r,rfl,h1,h2⟩:=h;have h3:=hs.D (d:=some p) (v:=v) (x:=y) (λt ht=>by injection ht with ht;subst ht;exact hp p aB) h1;have h4:=abo ps vs r (bO s p v) (tm.setIfInBounds p y) (λq hq=>by simpa using hp q (by simp[hq])) h3 h2;refine⟨h4.1,?_⟩;have h5:=h4.2;simpa using h5
def anl(hT:cH P E.a)(hC:∀g,ck E.a E.b P g (E.f g))(hI:ud E P){assign body:Code}(ha:Pw E P Z n lo ⟨true,[]⟩ assign)(tL:Pw E P Z n lo ⟨true,[]⟩ body)
  (hF:F=Fence.wide\/∃l,F=Fence.wide.inRound l)(hK:mh m B K)(dT:lo<=B){g:Operand}{ps:Array Tmp}{x:aU×bu}(hc:dI E.e E.g n (.rangeFunc g ps assign body)=true)(hg:F≠Fence.wide\/d0.a=false->jG (.rangeFunc g ps assign body)=true)
  (hl:kF E m (.rangeFunc g ps assign body))(he:(cy E m (.rangeFunc g ps assign body) s).D=some x)(r:bA E Z n lo d0 s β a w)(hw:K s.a β w):(Code.rangeFunc g ps assign body).wpIn F kn P (px E Z n lo d0 K x) a w:=by
 have aKJ:F=Fence.wide:=by
  by_cases h:F=Fence.wide
  ·exact h
  ·have:=hg (.inl h);cases this
 subst aKJ;rw[dI]at hc;simp only[au]at hc;obtain⟨⟨B6,aKK,Ip⟩,aKL,aKM⟩:=hc;obtain⟨vt,vu⟩:=hl;rw[cy]at he;split at he
 case h_2=>simp[af.D]at he
 rename_i f eN jN;split at he
 case h_2=>simp[af.D]at he
 rename_i aKN;obtain⟨items,jP,he⟩:=cm he;obtain⟨res,e1,e2⟩:=cm he;simp only[af.D,Option.some.injEq]at e2;subst e2;obtain⟨keep,xA⟩:∃k,k=E.c (cF assign):=⟨_,rfl⟩
 have ajQ:=r.m.I (λg=>(r.f.n g).1) g;rw[jN]at ajQ;obtain⟨p,q,hq,hp,Iq⟩:=ajQ;have Yy:p= #[]:=by have:p.toList=[]:=hp;simpa using this
 subst Yy;have aKO:aF E.a w (aY Z s.a β) eN bh q.toList:=aF.vT eN _ _ _ (λrr y hs hr=>by
  have h1:rr.dP=[]:=by rw[ajl];intro i hi;have:=hs i hi;rw[<-aa.tW,aKN]at this;cases this
  exact absurd h1 (bW.D hr)) Iq
 obtain⟨xB,jw⟩:=hI f eN items jP;have Yz:∀b,aY Z s.a β b->b<w.heap.size:=by
  rintro b (hz | ⟨i,mi,rfl⟩)
  ·exact r.f.m b hz
  ·exact(r.f.c i).D (aj.t_ mi.1) mi.2
 have hB:=hK.e hw;have vj:=r.z.am8;refine wpIn_rangeFunc (λfn xC=> ?_);obtain⟨rec,ga⟩:∃rec:LoopState->Option Code->Loop,rec=λst pe=>{state:=st,pending:=pe,fn,tmps:=a.tmps,params:=ps,assign,body,defers:=w.heap.size}:=⟨_,rfl⟩
 obtain⟨W1,vv⟩:∃W1,(w.alloc (.deferred (some []))).alloc (.loop (rec .ready none))=W1:=⟨_,rfl⟩
 have ir:W1.heap.size=w.heap.size+2:=by rw[<-vv];simp[zi]
 have ajR:W1.heap[w.heap.size+1]? =some (.loop (rec .ready none)):=by rw[<-vv];have:=World.alloc_heap_new (w.alloc (.deferred (some []))) (.loop (rec .ready none));rwa[zi]at this
 have YA:∀B',cc B' w W1:=λB'=>by rw[<-vv];exact(cc.V w _).Fo (cc.V _ _)
 have NJ:W1.heap[w.heap.size]? =some (.deferred (some [])):=by rw[<-vv];show(((w.heap.push (.deferred (some []))).push _)[w.heap.size]?)=_;rw[HI aB];simp
 obtain⟨l,ajS⟩:∃l,l=w.heap.size+1:=⟨_,rfl⟩
 obtain⟨D,ajT⟩:∃D,D=w.heap.size:=⟨_,rfl⟩
 rw[<-ajS]at ajR;rw[<-ajT]at NJ;refine⟨l,[{target:=.collected D,args:= #[]}],W1,{target:=.fn (.func f) q,args:= #[.func (.yield l) #[] #[]]},W1,f,#[.func (.yield l) #[] #[]]++q,W1,?_,?_,?_,?_,(λh=>absurd h (by simp[Fence.wide])),?_⟩
 ·rw[<-vv,ga,ajS,ajT];exact run_enterLoop_outer _ _ _ _ _
 ·simp only[resolve,hq];simp[go_sem]
 ·intro f' _;trivial
 ·simp[invoke,go_sem,xB]
 ·have B7:∀{os:List aj}{β':Nat->bd}{R:Nat->Prop},(∀i,cQ (a_ os) β' i->aY Z s.a β (β' i).a\/R (β' i).a)->∀b,aY Z (a_ os) β' b->aY Z s.a β b\/R b:=by
   rintro os β' R hm b (hz | ⟨i,mi,rfl⟩)
   ·exact .inl (.inl hz)
   ·exact hm i mi
  refine(jw (kn-1) (aY Z s.a β) w q Yz r.f.n aKO l
   (λk R X=>∃vs os β',(E.d m (cF assign) (.q (items.drop k)::vs) os).D=some res/\bA E Z n lo d0 (dx keep vs os) β' a X/\K (a_ os) β' X/\(∀i,cQ (a_ os) β' i->aY Z s.a β (β' i).a\/R (β' i).a)/\
    gO l (.loop (rec .ready none)) (a_ os) β' X/\gO D (.deferred (some [])) (a_ os) β' X/\R l)
   (λX=>∃ex c vs os β',res=(ex,vs,os)/\ank ex=some c/\bA E Z n lo d0 (dx keep vs os) β' a X/\K (a_ os) β' X/\
    gO l (.loop (rec .done (some c))) (a_ os) β' X/\gO D (.deferred (some [])) (a_ os) β' X)
   W1 (YA _) ?_ ?_ ?_ ?_).mono ?_
  ·rintro k R X Y ⟨vs,os,β',h1,h2,h3,h4,h5,h6,h7⟩ jB;exact⟨vs,os,β',h1,h2.U jB (λD' hD'=>by have:=vj D' hD';omega),hK.c h3 (jB.D ab),h4,gO.D.c (m:=0) h5 (jB.D ab),gO.D.c (m:=0) h6 (jB.D ab),h7⟩
  ·rintro X Y ⟨ex,c,vs,os,β',h0,h1,h2,h3,h5,h6⟩ jB;exact⟨ex,c,vs,os,β',h0,h1,h2.U jB (λD' hD'=>by have:=vj D' hD';omega),hK.c h3 (jB.D ab),gO.D.c (m:=0) h5 (jB.D ab),gO.D.c (m:=0) h6 (jB.D ab)⟩
  ·rintro k R X xs args hx ⟨vs,os,β',hL,hr,hk,hm,jA,vw,hR⟩ cN;obtain⟨aKP,kA⟩:=List.getElem?_eq_some_iff.1 hx;have aKQ:items.drop k=.q xs::items.drop (k+1):=by rw[oY aKP,kA]
   rw[aKQ]at hL;obtain⟨y,pd,iK⟩:=vt _ _ _ _ hL;unfold oA at pd;simp only at pd;split at pd
   case h_2=>simp[af.D]at pd
   rename_i ajU;simp only[au]at ajU;obtain⟨⟨hlen,iL⟩,YB⟩:=ajU;obtain⟨⟨ex1,s1⟩,f1,f2⟩:=cm pd;have o6:ex1=.b:=by
    cases ex1 with
    |b=>rfl
    |_=>simp[af.D]at f2
   subst o6;simp only at f2;obtain⟨⟨ex2,s2⟩,f3,f4⟩:=cm f2;have ajV:m<=os.length:=ft YB;have jg:xV (a_ os):=by
    intro i ro g' t vs' hq;rw[oC]at hq;cases ho:os[i]? with
    |none=>rw[ho]at hq;cases hq
    |some o=>rw[ho]at hq;have h1:=List.all_eq_true.1 iL o (eg ho);simp only[lr]at hq;rw[hq]at h1;exact iZ h1
   have cC:l<X.heap.size:=jA.I;have YC:D<X.heap.size:=vw.I;have vl:args.length=ps.size:=by have h1:=cN.I;have h2:=iZ hlen;simp at h2;omega
   have BT:aF E.a X (aY Z (a_ os) β') xs (bW E.a (a_ os) β') args:=aF.D (cz.D (B7 hm)) xs _ _ _ (λ_ _ h=>h.elim) cN;have aKR:∀p∈ps.toList,p<a.tmps.size:=λp hp=>by rw[hr.p];exact ft (List.all_eq_true.1 B6 p hp)
   obtain⟨jd,bE⟩:=abo ps.toList xs args (dx keep vs os).b a.tmps aKR hr.m BT;obtain⟨tm,NK⟩:∃tm,tm=(ps.toList.zip args).foldl (λt p=>t.setIfInBounds p.1 p.2) a.tmps:=⟨_,rfl⟩
   rw[<-NK]at jd bE;have YD:bA E Z n lo ⟨true,[]⟩ ⟨Fh (dx keep vs os).b ps.toList xs,a_ os,os.length⟩ β' {tmps:=tm,defers:=[]} X:=⟨hr.f,jd,bE.trans hr.p,gg.I fR.I⟩
   have vq:qf ⟨Fh (dx keep vs os).b ps.toList xs,a_ os,os.length⟩:=λi hi=>by show a_ os i=.c;rw[oC,kY hi];rfl
   have jy:=run_yield (P:=P) (args:=args.toArray) jA.1 (by rw[ga];simpa using vl);have aKS:(((rec .ready none).params.zip args.toArray).foldl (λtmps (p:Tmp×Value)=>tmps.setIfInBounds p.1 p.2) (rec .ready none).tmps)=tm:=by rw[NK,ga];show(ps.zip args.toArray).foldl (λtmps (p:Tmp×Value)=>tmps.setIfInBounds p.1 p.2) a.tmps=_;rw[<-HJ,Array.toList_zip]
   have aKT:mh os.length X.heap.size (λh b w'=>((K h b w'/\gO D (.deferred (some [])) h b w')/\gO l (.loop (rec .ready none)) h b w')/\dZ os.length (a_ os) β' X h b w'):=
    ((hK.D (gO.D (m:=os.length)) ajV ab).D (gO.D (m:=os.length)) (bj _) ab).D (dZ.U jg) (bj _) cC
   have aKU:mh os.length X.heap.size (λh b w'=>((K h b w'/\gO D (.deferred (some [])) h b w')/\gO l (.loop {rec .ready none with state:=.busy}) h b w')/\dZ os.length (a_ os) β' (X.putObj l (.loop {rec .ready none with state:=.busy})) h b w'):=by have h1:=((hK.D (gO.D (l:=D) (o:=.deferred (some [])) (m:=os.length)) ajV ab).D (gO.D (l:=l) (o:=.loop {rec .ready none with state:=.busy}) (m:=os.length)) (bj _) ab).D (dZ.U (m:=os.length) (β0:=β') (w0:=X.putObj l (.loop {rec .ready none with state:=.busy})) jg) (bj _) (by simp;omega);simpa using h1
   refine⟨_,_,_,_,jy,?_⟩;rw[aKS];have xC:(rec .ready none).assign=assign/\(rec .ready none).body=body:=by rw[ga];exact⟨rfl,rfl⟩
   rw[xC.1,xC.2];refine roundIn_of_wpIn trivial (tC (ha (Fence.wide.inRound l) _ os.length _ _ (.inr ⟨l,rfl⟩) aKT ab _ _ β' _ X aKK (λ_=>aKL) (vu _).1 (by rw[xA];exact f1) YD vq ⟨⟨⟨hk,vw⟩,jA⟩,dZ.D⟩) ?_);rintro e a1 w1 ⟨β1,r1,tH,⟨⟨⟨k1,kd1⟩,kl1⟩,wk1⟩,lB⟩;cases e with
   |normal=>
    refine⟨_,run_beginRound kl1.1 (by rw[ga]),?_⟩;have pO:cc l w1 (w1.putObj l (.loop {rec .ready none with state:=.busy})):=cc.I kl1.1 (bj _) _;refine tC (tL (Fence.wide.inRound l) _ os.length _ _ (.inr ⟨l,rfl⟩) aKU ab _ _ β1 a1 _ Ip (λ_=>aKM) (vu _).2 f3 (r1.abn kl1.1 _) tH
     ⟨⟨⟨hK.c k1 (pO.D ab),gO.D.c (m:=0) kd1 (pO.D ab)⟩,zn kl1.I,kl1.2⟩,wk1.ani _ cC⟩) ?_
    rintro e a3 w3 ⟨β3,r3,H0,⟨⟨⟨k3,kd3⟩,kl3⟩,wk3⟩,iJ⟩;have fin:∀rc:Loop,bA E Z n lo d0 ⟨(dx keep vs os).b,s2.a,s2.c⟩ β3 a (w3.putObj l (.loop rc))/\K s2.a β3 (w3.putObj l (.loop rc))/\gO l (.loop rc) s2.a β3 (w3.putObj l (.loop rc))/\gO D (.deferred (some [])) s2.a β3 (w3.putObj l (.loop rc)):=by
     intro rc;have zr:cc l w3 (w3.putObj l (.loop rc)):=cc.I kl3.1 (bj _) _;have hX:cc l X (X.putObj l (.loop {rec .ready none with state:=.busy})):=cc.I jA.1 (bj _) _;have st:dF (a_ os) β' (X.putObj l (.loop {rec .ready none with state:=.busy})) s2.a β3 w3:=⟨wk3.f,wk3.n,wk3.p,wk3.c,wk3.d,wk3.r,λi=>by
      by_cases hi:i<os.length
      ·exact wk3.u i hi
      ·rw[oC,kY ab];trivial⟩
     have YE:=hr.abn jA.1 (.loop {rec .ready none with state:=.busy});refine⟨⟨r3.f.I zr,λt=>ax.U zr _ _ _ (st.V YE.f (YE.m t)),hr.p,?_⟩,hK.c k3 (zr.D ab),⟨zn kl3.I,kl3.2⟩,gO.D.c (m:=0) kd3 (zr.D ab)⟩;exact(YE.z.U st).V zr (λD' hD'=>by have:=vj D' hD';omega)
    have kp:∀rc:Loop,∃R':Nat->Prop,(∀i,cQ s2.a β3 i->aY Z s.a β (β3 i).a\/R' (β3 i).a)/\R' l/\sA (aY Z s.a β) R X R' (w3.putObj l (.loop rc)):=by
     intro rc;refine⟨λb=>R b\/(X.heap.size<=b/\b<(w3.putObj l (.loop rc)).heap.size),λi mi=> ?_,.inl hR,⟨?_,λb hb hz gV=> ?_,λb hb=>hb.imp id And.left,λb hb=>hb.imp id And.right⟩⟩
     ·rcases wk3.r i mi with⟨j,mj,ej⟩ |ej
      ·rw[<-ej];rcases hm j mj with h |h
       ·exact .inl h
       ·exact .inr (.inl h)
      ·have aKV:=(r3.f.c i).D (aj.t_ mi.1) mi.2;exact .inr (.inr ⟨by simpa using ej,by simpa using aKV⟩)
     ·have:=wk3.c;simpa using this
     ·have j6:b≠l:=λe=>gV (e▸hR);have h1:=wk3.d b (by simpa using hb) (λi mi e=>by
       rcases hm i mi with h |h
       ·exact hz (e▸h)
       ·exact gV (e▸h))
      rw[oe j6,h1,oe j6]
    have zA:∀rc:Loop,bA E Z n lo d0 (dx keep (jS keep m ⟨(dx keep vs os).b,s2.a,s2.c⟩) (gK keep m ⟨(dx keep vs os).b,s2.a,s2.c⟩)) (eV β3 (mM keep m ⟨(dx keep vs os).b,s2.a,s2.c⟩)) a (w3.putObj l (.loop rc)):=λrc=>sx keep (fin rc).1;have qR:∀{l':Nat}{o:Obj}{Y:World},gO l' o s2.a β3 Y->gO l' o (a_ (gK keep m ⟨(dx keep vs os).b,s2.a,s2.c⟩)) (eV β3 (mM keep m ⟨(dx keep vs os).b,s2.a,s2.c⟩)) Y:=λh=>⟨h.1,λi mi he=>by
     obtain⟨j,_,mj,ej⟩:=nE mi;exact h.2 j mj (ej.symm.trans he)⟩
    have YF:∀{Y:World},K s2.a β3 Y->K (a_ (gK keep m ⟨(dx keep vs os).b,s2.a,s2.c⟩)) (eV β3 (mM keep m ⟨(dx keep vs os).b,s2.a,s2.c⟩)) Y:=λh=>sz (s:=⟨(dx keep vs os).b,s2.a,s2.c⟩) hK keep h;cases ex2 with
    |b=>
     cases e with
     |normal=>
      simp only[af.D,Option.some.injEq]at f4;subst f4;refine⟨_,_,HQ none kl3.1,.inl ⟨rfl,?_⟩⟩;obtain⟨R',h1,h2,h3⟩:=kp {rec .ready none with state:=.ready,pending:=none};have rY:({rec .ready none with state:=.ready,pending:=none}:Loop)=rec .ready none:=by rw[ga]
      refine⟨R',⟨_,_,_,xA▸iK,zA _,YF (fin _).2.1,λi mi=> ?_,rY▸qR (fin _).2.2.1,qR (fin _).2.2.2,h2⟩,h3⟩;obtain⟨j,_,mj,ej⟩:=nE mi;rw[ej];exact h1 j mj
     |_=>exact iJ.elim
    |c=>
     cases e with
     |ret=>
      simp only[af.D,Option.some.injEq]at f4;subst f4;refine⟨_,_,HQ (some .ret) kl3.1,.inr ⟨rfl,?_⟩⟩;have rY:({rec .ready none with state:=.done,pending:=some .ret}:Loop)=rec .done (some .ret):=by rw[ga]
      obtain⟨R',_,_,h3⟩:=kp {rec .ready none with state:=.done,pending:=some .ret};exact⟨⟨.c,.ret,_,_,_,xA▸iK.symm,rfl,zA _,YF (fin _).2.1,rY▸qR (fin _).2.2.1,qR (fin _).2.2.2⟩,R',h3⟩
     |_=>exact iJ.elim
    |a i=>
     cases e with
     |exit i'=>
      have NL:i=i':=iJ;subst NL;simp only[af.D,Option.some.injEq]at f4;subst f4;refine⟨_,_,HQ (some (.exit i)) kl3.1,.inr ⟨rfl,?_⟩⟩;have rY:({rec .ready none with state:=.done,pending:=some (.exit i)}:Loop)=rec .done (some (.exit i)):=by rw[ga]
      obtain⟨R',_,_,h3⟩:=kp {rec .ready none with state:=.done,pending:=some (.exit i)};exact⟨⟨(.a i),(.exit i),_,_,_,xA▸iK.symm,rfl,zA _,YF (fin _).2.1,rY▸qR (fin _).2.2.1,qR (fin _).2.2.2⟩,R',h3⟩
     |_=>exact iJ.elim
    |d l=>simp[af.D]at f4
    |e v=>simp[af.D]at f4
   |_=>exact lB.elim
  ·refine⟨_,_,_,by rw[oc];exact xA▸e1,sx keep (r.U (YA w.heap.size) vj),sz hK keep (hK.c hw (YA _)),?_,?_,?_,ab⟩
   ·intro k mk;obtain⟨i,_,mi,ei⟩:=nE mk;exact .inl (.inr ⟨i,mi,ei.symm⟩)
   ·exact⟨ajR,λk mk=>by
     obtain⟨i,_,mi,ei⟩:=nE mk;have:=Yz _ (.inr ⟨i,mi,rfl⟩);omega⟩
   ·exact⟨NJ,λk mk=>by
     obtain⟨i,_,mi,ei⟩:=nE mk;have:=Yz _ (.inr ⟨i,mi,rfl⟩);omega⟩
  ·rintro e Y ⟨⟨v,rfl⟩,hY⟩;have marks:∀{os:List aj}{β':Nat->bd}{Y:World},gg lo d0 (a_ os) β' Y a.defers->gO D (.deferred (some [])) (a_ os) β' Y->lo<=D->gg lo d0 (a_ os) β' Y ([{target:=.collected D,args:= #[]}]++a.defers):=by
    intro os β' Y hm hd dT;obtain⟨mH,ld,NI,_,cP,Yx⟩:=hm;refine⟨mH,D::ld,by rw[NI];rfl,λhq=>absurd (hg (.inr hq)) (by simp[jG]),List.nodup_cons.2 ⟨λhD'=> ?_,cP⟩,λD' hD'=> ?_⟩
    ·have:=vj D (by rw[NI];exact List.mem_append.2 (.inl (List.mem_map.2 ⟨D,hD',rfl⟩)));omega
    ·rcases List.mem_cons.1 hD' with rfl |h
     ·exact⟨dT,hd⟩
     ·exact Yx D' h
   rcases hY with⟨R,vs,os,β',hL,hr,hk,hm,jA,vw,hR⟩ | ⟨ex,c,vs,os,β',h0,h1,hr,hk,jA,vw⟩
   ·rw[List.drop_length]at hL;have h0:=vt [] vs os res hL;have jB:cc l Y (Y.putObj l (.loop {rec .ready none with state:=.exhausted})):=cc.I jA.1 (bj _) _;have YG:lo<=D:=ab;refine⟨none,_,by have:=Nc (P:=P) jA.1 (by rw[ga];simp);rw[this,ga],?_⟩;rw[h0];have ky:=hK.c hk (jB.D ab);have kz:=hr.U jB (λD' hD'=>by have:=vj D' hD';omega);have je:=gO.D.c (m:=0) vw (jB.D ab);have nu:bA E Z n lo d0 (dx keep vs os) β' {a with defers:=[{target:=.collected D,args:= #[]}]++a.defers} _:=⟨kz.f,kz.m,kz.p,marks kz.z je YG⟩
    rw[xA]at nu;rw[ga]at nu ky;exact⟨β',nu,sy _ _ _,ky,trivial⟩
   ·have YG:lo<=D:=ab;have jB:cc l Y (Y.putObj l (.loop {rec .done (some c)with state:=.exhausted})):=cc.I jA.1 (bj _) _;refine⟨some c,_,by have:=Nc (P:=P) jA.1 (by rw[ga];simp);rw[this,ga],?_⟩;rw[h0];have kz:=hr.U jB (λD' hD'=>by have:=vj D' hD';omega);have je:=gO.D.c (m:=0) vw (jB.D ab);have nu:bA E Z n lo d0 (dx keep vs os) β' {a with defers:=[{target:=.collected D,args:= #[]}]++a.defers} _:=⟨kz.f,kz.m,kz.p,marks kz.z je YG⟩
    have ky:=hK.c hk (jB.D ab);rw[xA]at nu;rw[ga]at nu ky;cases ex with
    |c=>cases h1;exact vd ⟨β',nu,sy _ _ _,ky,trivial⟩
    |a i=>cases h1;exact qL ⟨β',nu,sy _ _ _,ky,rfl⟩
    |_=>cases h1
def Px{E:bD}{m l:Nat}:∀{c rest:Code},findLabel c l=some rest->kF E m c->kF E m rest
 | .seq a b,rest,h,hc=>by
  unfold findLabel at h;split at h
  ·rename_i r hr;simp only[Option.some.injEq]at h;subst h;exact⟨Px hr hc.1,hc.2⟩
  ·exact Px h hc.2
 | .label l',rest,h,hc=>by
  unfold findLabel at h;split at h
  ·simp only[Option.some.injEq]at h;subst h;trivial
  ·cases h
 | .skip,_,h,_=>by simp[findLabel]at h
 | .region ..,_,h,_=>by simp[findLabel]at h
 | .cond ..,_,h,_=>by simp[findLabel]at h
 | .block ..,_,h,_=>by simp[findLabel]at h
 | .loop ..,_,h,_=>by simp[findLabel]at h
 | .scope ..,_,h,_=>by simp[findLabel]at h
 | .rangeFunc ..,_,h,_=>by simp[findLabel]at h
 | .exit ..,_,h,_=>by simp[findLabel]at h
 | .goto ..,_,h,_=>by simp[findLabel]at h
 | .ret,_,h,_=>by simp[findLabel]at h
 | .refuse ..,_,h,_=>by simp[findLabel]at h
def nF(hT:cH P E.a)(hC:∀g,ck E.a E.b P g (E.f g))(hI:ud E P):∀(c:Code)(d0:fR),Pw E P Z n lo d0 c
 | .skip,d0,F,kn,m,B,K,hF,hK,dT,s,x,β,a,w,_,_,_,he,r,hf,hw=>by simp only[cy,af.D,Option.some.injEq]at he;subst he;exact nj ⟨β,r,hf,hw,trivial⟩
 | .label l,d0,F,kn,m,B,K,hF,hK,dT,s,x,β,a,w,_,_,_,he,r,hf,hw=>by simp only[cy,af.D,Option.some.injEq]at he;subst he;exact wpIn_label ⟨β,r,hf,hw,trivial⟩
 | .scope c,d0,F,kn,m,B,K,hF,hK,dT,s,x,β,a,w,hc,hg,hl,he,r,hf,hw=>by
  rw[cy]at he;by_cases iM:F=Fence.wide
  ·subst iM;have om:¬d0.a=false:=λh=>by have:=hg (.inr h);cases this
   rw[zo];obtain⟨x1,e1,e2⟩:=cm he;have h0:=nF hT hC hI c d0 Fence.wide kn m B K (.inl rfl) hK dT s x1 β a w hc (λh=>by rcases h with h |h;exact absurd rfl h;exact absurd h om) hl.1 e1 r hf hw;rw[zo]at h0;obtain⟨ex,s1⟩:=x1;have NM:(∀l,ex≠ .d l)->x=(ex,s1)->(Code.scope c).wp P (px E Z n lo d0 K x) a w:=λbL hx=>by
    subst hx;refine wp_scope_straight (wp_mono h0 (λe a' w' hp=> ?_));cases e with
    |goto l=>obtain⟨β',r',hf',hw',hx⟩:=hp;cases ex<;>first |exact hx.elim |exact absurd rfl (bL _)
    |_=>exact hp
   cases ex with
   |d l=>
    simp only at e2;split at e2
    ·rename_i rest j5;obtain⟨res,e3,e4⟩:=cm e2;simp only[af.D,Option.some.injEq]at e4;subst e4;obtain⟨μ,hμ⟩:=hl.2 l rest j5;obtain⟨key,gr⟩:∃key,key=kD l rest:=⟨_,rfl⟩
     rw[<-gr]at hμ e3⊢;have bE:=Pv j5;refine ang (ι:=List aa×List aj) (λi a w=>(E.d m key i.1 i.2).D=some res/\∃β,bA E Z n lo d0 (dx (E.c key) i.1 i.2) β a w/\K (a_ i.2) β w) (λi=>μ i.1 i.2) j5 (wp_mono h0 (λe a' w' hp=> ?_)) (λi a' w' hi=> ?_)
     ·obtain⟨β',r',hf',hw',hx⟩:=hp;cases e with
      |goto l'=>have EI:l=l':=hx;exact⟨EI.symm,(jS (E.c key) m s1,gK (E.c key) m s1),e3,_,sx _ r',sz (s:=s1) hK _ hw'⟩
      |_=>exact hx.elim
     ·obtain⟨hL,β1,r1,iM⟩:=hi;obtain⟨vs,os⟩:=i;obtain⟨aM2,y,pd,iK⟩:=hμ vs os res hL;unfold mN at pd;obtain⟨x2,f1,f2⟩:=cm pd;have h3:=nF hT hC hI rest d0 Fence.wide kn m B K (.inl rfl) hK dT _ x2 β1 a' w' (Pu j5 hc) (λh=>by rcases h with h |h;exact absurd rfl h;exact absurd h om) (Px j5 hl.1) f1 r1 (sy _ _ _) iM;rw[zo]at h3;refine wp_mono h3 (λe a2 w2 hp=> ?_);obtain⟨β2,r2,qQ,mI,cL⟩:=hp;obtain⟨ex2,s2⟩:=x2;have out:∀ex',y=(ex',jS (E.h key) m s2,gK (E.h key) m s2)->y=res->(∀l',e≠ .goto l')->z8 E Z (dx (E.h key) (jS (E.h key) m s2) (gK (E.h key) m s2)) (eV β2 (mM (E.h key) m s2)) w2 ex' e->
        Exit.jump l (λa' w'=>∃j:List aa×List aj,((E.d m key j.1 j.2).D=some res/\∃β,bA E Z n lo d0 (dx (E.c key) j.1 j.2) β a' w'/\K (a_ j.2) β w')/\μ j.1 j.2<μ vs os) (px E Z n lo d0 K (res.1,dx (E.h key) res.2.1 res.2.2)) e a2 w2:=by
       intro ex' q1 q2 bL q3;have:px E Z n lo d0 K (res.1,dx (E.h key) res.2.1 res.2.2) e a2 w2:=by rw[<-q2,q1];exact⟨_,sx _ r2,sy _ _ _,sz (s:=s2) hK _ mI,q3⟩
       cases e with
       |goto l'=>exact absurd rfl (bL l')
       |_=>exact this
      cases ex2 with
      |d l2=>
       simp only[af.D,Option.some.injEq]at f2;subst f2;cases e with
       |goto l'=>have EI:l2=l':=cL;obtain⟨g1,g2,g3⟩:=iK;exact⟨EI▸g1,(jS (E.c key) m s2,gK (E.c key) m s2),⟨g3,_,sx _ r2,sz (s:=s2) hK _ mI⟩,g2⟩
       |_=>exact cL.elim
      |b=>
       simp only[af.D,Option.some.injEq]at f2;subst f2;cases e with
       |normal=>exact out .b rfl iK aB trivial
       |_=>exact cL.elim
      |a i=>
       simp only[af.D,Option.some.injEq]at f2;subst f2;cases e with
       |exit j=>exact out (.a i) rfl iK aB cL
       |_=>exact cL.elim
      |c=>
       simp only[af.D,Option.some.injEq]at f2;subst f2;cases e with
       |ret=>exact out .c rfl iK aB trivial
       |_=>exact cL.elim
      |e v=>
       simp only[af.D,Option.some.injEq]at f2;subst f2;cases e with
       |panic ch=>obtain⟨k1,z,k2,k3⟩:=cL;refine out (.e v) rfl iK aB ⟨k1,z,k2,?_⟩;exact ax.D (cz.D (su (λb hb=>.inl hb))) _ _ _ _ (λ_ _ h=>h) k3
       |_=>exact cL.elim
    ·simp[af.D]at e2
   |b=>simp only[af.D,Option.some.injEq]at e2;exact NM aB e2.symm
   |a i=>simp only[af.D,Option.some.injEq]at e2;exact NM aB e2.symm
   |c=>simp only[af.D,Option.some.injEq]at e2;exact NM aB e2.symm
   |e v=>simp only[af.D,Option.some.injEq]at e2;exact NM aB e2.symm
  ·have:=hg (.inl iM);cases this
 | .exit id,d0,F,kn,m,B,K,hF,hK,dT,s,x,β,a,w,_,_,_,he,r,hf,hw=>by simp only[cy,af.D,Option.some.injEq]at he;subst he;exact qL ⟨β,r,hf,hw,rfl⟩
 | .ret,d0,F,kn,m,B,K,hF,hK,dT,s,x,β,a,w,_,_,_,he,r,hf,hw=>by simp only[cy,af.D,Option.some.injEq]at he;subst he;exact vd ⟨β,r,hf,hw,trivial⟩
 | .region id ops draw,d0,F,kn,m,B,K,hF,hK,dT,s,x,β,a,w,hc,_,_,he,r,hf,hw=>abh (am' hF) hT hC (by rw[dI,au]at hc;exact hc.1) (λhd=>by subst hd;rw[dI,au]at hc;simpa using hc.2) he hK r hf hw
 | .seq c d,d0,F,kn,m,B,K,hF,hK,dT,s,x,β,a,w,hc,hg,hl,he,r,hf,hw=>by
  rw[dI,au]at hc;rw[cy]at he;obtain⟨x1,e1,e2⟩:=cm he;refine b8 (tC (nF hT hC hI c d0 _ kn _ _ _ hF hK dT s x1 β a w hc.1 (abf hg) hl.1 e1 r hf hw) (λe a' w' hp=> ?_));obtain⟨β',r',hf',hw',hx⟩:=hp;obtain⟨ex,s1⟩:=x1;cases ex with
  |b=>
   cases e with
   |normal=>exact nF hT hC hI d d0 _ kn _ _ _ hF hK dT s1 x β' a' w' hc.2 (abg hg) hl.2 e2 r' hf' hw'
   |_=>exact hx.elim
  |a i=>
   simp only[af.D,Option.some.injEq]at e2;subst e2;cases e with
   |exit j=>exact⟨β',r',hf',hw',hx⟩
   |_=>exact hx.elim
  |c=>
   simp only[af.D,Option.some.injEq]at e2;subst e2;cases e with
   |ret=>exact⟨β',r',hf',hw',hx⟩
   |_=>exact hx.elim
  |e v=>
   simp only[af.D,Option.some.injEq]at e2;subst e2;cases e with
   |panic ch=>exact⟨β',r',hf',hw',hx⟩
   |_=>exact hx.elim
  |d l=>
   simp only[af.D,Option.some.injEq]at e2;subst e2;cases e with
   |goto j=>exact⟨β',r',hf',hw',hx⟩
   |_=>exact hx.elim
 | .cond cn c d,d0,F,kn,m,B,K,hF,hK,dT,s,x,β,a,w,hc,hg,hl,he,r,hf,hw=>by
  rw[dI,au]at hc;have hv:=r.m.I (λg=>(r.f.n g).1) cn;have fin:∀t,aN E s.b cn=.p t->(cy E m (if t then c else d) s).D=some x->(Code.cond cn c d).wpIn F kn P (px E Z n lo d0 K x) a w:=λt ht e2=>by
   rw[ht]at hv;refine fY hv ?_;cases t with
   |true=>exact nF hT hC hI c d0 _ kn _ _ _ hF hK dT s x β a w hc.1 (abf hg) hl.1 e2 r hf hw
   |false=>exact nF hT hC hI d d0 _ kn _ _ _ hF hK dT s x β a w hc.2 (abg hg) hl.2 e2 r hf hw
  cases cn with
  |tmp t=>
   simp only[cy]at he;split at he
   ·rename_i b hb;have hb':s.b t=.p b:=hb;refine fin b hb ?_;cases b with
    |true=>simp only[af.D]at he;rw[ua hb']at he;exact he
    |false=>simp only[af.D]at he;rw[ua hb']at he;exact he
   ·simp[af.D]at he
  |_=>
   simp only[cy]at he;split at he
   ·rename_i b hb;refine fin b hb ?_;cases b<;>(simp only[af.D]at he;exact he)
   ·simp[af.D]at he
 | .block id c,d0,F,kn,m,B,K,hF,hK,dT,s,x,β,a,w,hc,hg,hl,he,r,hf,hw=>by
  rw[dI]at hc;rw[cy]at he;obtain⟨x1,e1,e2⟩:=cm he;refine lx (tC (nF hT hC hI c d0 _ kn _ _ _ hF hK dT s x1 β a w hc (λh=>hg h) hl e1 r hf hw) (λe a' w' hp=> ?_));obtain⟨β',r',hf',hw',hx⟩:=hp;obtain⟨ex,s1⟩:=x1;cases ex with
  |b=>
   simp only[af.D,Option.some.injEq]at e2;subst e2;cases e with
   |normal=>exact⟨β',r',hf',hw',hx⟩
   |_=>exact hx.elim
  |a i=>
   cases e with
   |exit j=>
    have gH:i=j:=hx;subst gH;simp only at e2;show if i=id then _ else _
    split at e2
    ·rename_i hb;simp only[af.D,Option.some.injEq]at e2;subst e2;rw[if_pos (aV hb)];exact⟨β',r',hf',hw',trivial⟩
    ·rename_i hb;simp only[af.D,Option.some.injEq]at e2;subst e2;rw[if_neg (λhe=>by rw[he,show Nat.beq id id=true from gq id]at hb;cases hb)];exact⟨β',r',hf',hw',rfl⟩
   |_=>exact hx.elim
  |c=>
   simp only[af.D,Option.some.injEq]at e2;subst e2;cases e with
   |ret=>exact⟨β',r',hf',hw',hx⟩
   |_=>exact hx.elim
  |e v=>
   simp only[af.D,Option.some.injEq]at e2;subst e2;cases e with
   |panic ch=>exact⟨β',r',hf',hw',hx⟩
   |_=>exact hx.elim
  |d l=>
   simp only[af.D,Option.some.injEq]at e2;subst e2;cases e with
   |goto j=>exact⟨β',r',hf',hw',hx⟩
   |_=>exact hx.elim
 | .loop b,d0,F,kn,m,B,K,hF,hK,dT,s,x,β,a,w,hc,hg,hl,he,r,hf,hw=>by
  rw[dI]at hc;obtain⟨⟨μ,hμ⟩,qW⟩:=hl;rw[cy]at he;obtain⟨res,e1,e2⟩:=cm he;simp only[af.D,Option.some.injEq]at e2;subst e2;refine uc (ι:=List aa×List aj) (λi a w=>(E.d m (cF b) i.1 i.2).D=some res/\∃β,bA E Z n lo d0 (dx (E.c (cF b)) i.1 i.2) β a w/\K (a_ i.2) β w) (λi=>μ i.1 i.2)
   (jS (E.c (cF b)) m s,gK (E.c (cF b)) m s) ⟨e1,_,sx _ r,sz hK _ hw⟩ (λi a w ⟨hL,β,r,hw⟩=> ?_)
  obtain⟨vs,os⟩:=i;obtain⟨y,pd,iK⟩:=hμ vs os res hL;unfold cB at pd;obtain⟨x1,f1,f2⟩:=cm pd;refine tC (nF hT hC hI b d0 _ kn _ _ _ hF hK dT _ x1 β a w hc (λh=>hg h) qW f1 r (sy _ _ _) hw) (λe a' w' hp=> ?_);obtain⟨β',r',hf',hw',hx⟩:=hp;obtain⟨ex,s1⟩:=x1;have out:∀ex',y=(ex',jS (E.h (cF b)) m s1,gK (E.h (cF b)) m s1)->y=res->z8 E Z (dx (E.h (cF b)) (jS (E.h (cF b)) m s1) (gK (E.h (cF b)) m s1)) (eV β' (mM (E.h (cF b)) m s1)) w' ex' e->
    px E Z n lo d0 K (res.1,dx (E.h (cF b)) res.2.1 res.2.2) e a' w':=by
   intro ex' h1 h2 h3;rw[<-h2,h1];exact⟨_,sx _ r',sy _ _ _,sz hK _ hw',h3⟩
  cases ex with
  |b=>
   simp only[af.D,Option.some.injEq]at f2;subst f2;cases e with
   |normal=>obtain⟨g1,g2⟩:=iK;exact⟨(jS (E.c (cF b)) m s1,gK (E.c (cF b)) m s1),⟨g2,_,sx _ r',sz hK _ hw'⟩,g1⟩
   |_=>exact hx.elim
  |a i=>
   simp only[af.D,Option.some.injEq]at f2;subst f2;cases e with
   |exit j=>exact out (.a i) rfl iK hx
   |_=>exact hx.elim
  |c=>
   simp only[af.D,Option.some.injEq]at f2;subst f2;cases e with
   |ret=>exact out .c rfl iK hx
   |_=>exact hx.elim
  |e v=>
   simp only[af.D,Option.some.injEq]at f2;subst f2;cases e with
   |panic ch=>obtain⟨k1,z,k2,k3⟩:=hx;refine out (.e v) rfl iK ⟨k1,z,k2,?_⟩;exact ax.D (cz.D (su (λb hb=>.inl hb))) _ _ _ _ (λ_ _ h=>h) k3
   |_=>exact hx.elim
  |d l=>
   simp only[af.D,Option.some.injEq]at f2;subst f2;cases e with
   |goto j=>exact out (.d l) rfl iK hx
   |_=>exact hx.elim
 | .goto l,d0,F,kn,m,B,K,hF,hK,dT,s,x,β,a,w,_,_,_,he,r,hf,hw=>by simp only[cy,af.D,Option.some.injEq]at he;subst he;exact wpIn_goto ⟨β,r,hf,hw,rfl⟩
 | .refuse l,d0,F,kn,m,B,K,hF,hK,dT,s,x,β,a,w,_,_,_,he,_,_,_=>by simp[cy,af.D]at he
 | .rangeFunc g ps assign body,d0,F,kn,m,B,K,hF,hK,dT,s,x,β,a,w,hc,hg,hl,he,r,hf,hw=>anl hT hC hI (nF hT hC hI assign _) (nF hT hC hI body _) hF hK dT hc hg hl he r hw
termination_by c=>SizeOf.sizeOf c
decreasing_by all_goals (simp only[Code.seq.sizeOf_spec,Code.cond.sizeOf_spec,Code.block.sizeOf_spec,Code.loop.sizeOf_spec,Code.scope.sizeOf_spec,Code.rangeFunc.sizeOf_spec];omega)
end
section
variable{E:bD}{P:Program}{Z:Nat->Prop}{n lo m:Nat}{d0:fR}{s:bu}{β:Nat->bd}{w:World}{a:Act}
def CI:Code->List Nat
 | .seq a b=>CI a++CI b
 | .label l=> [l]
 |_=> []
def Py{l:Nat}:∀{c rest:Code},findLabel c l=some rest->l∈CI c
 | .seq a b,rest,h=>by
  unfold findLabel at h;rw[CI,xh];split at h
  ·rename_i r hr;exact .inl (Py hr)
  ·exact .inr (Py h)
 | .label l',rest,h=>by
  unfold findLabel at h;split at h
  ·rename_i hq;have:l'=l:=by simpa using hq
   simp[CI,this]
  ·cases h
 | .skip,_,h=>by simp[findLabel]at h
 | .region ..,_,h=>by simp[findLabel]at h
 | .cond ..,_,h=>by simp[findLabel]at h
 | .block ..,_,h=>by simp[findLabel]at h
 | .loop ..,_,h=>by simp[findLabel]at h
 | .scope ..,_,h=>by simp[findLabel]at h
 | .rangeFunc ..,_,h=>by simp[findLabel]at h
 | .exit ..,_,h=>by simp[findLabel]at h
 | .goto ..,_,h=>by simp[findLabel]at h
 | .ret,_,h=>by simp[findLabel]at h
 | .refuse ..,_,h=>by simp[findLabel]at h
def anm{n:Nat}(hk:k<=n)(h:jU k ops=true):jU n ops=true:=by
 unfold jU at*;rw[au]at*;refine⟨?_,h.2⟩
 replace h:=h.1
 rw[dS]at*;intro o ho;have h1:=h o ho;split
 ·rename_i d hd;rw[hd]at h1;exact Ey (eb (ft h1) hk)
 ·rfl
def oD{mode:FuncId->List Bool}{dyn:Nat->Bool}{k n:Nat}(hk:k<=n):∀(c:Code),dI mode dyn k c=true->dI mode dyn n c=true
 | .region _ ops _,h=>by rw[dI,au]at*;exact⟨anm hk h.1,h.2⟩
 | .seq a b,h=>by rw[dI,au]at*;exact⟨oD hk a h.1,oD hk b h.2⟩
 | .cond _ a b,h=>by rw[dI,au]at*;exact⟨oD hk a h.1,oD hk b h.2⟩
 | .block _ b,h=>oD hk b h
 | .loop b,h=>oD hk b h
 | .skip,_=>rfl
 | .rangeFunc _ ps a b,h=>by simp only[dI,au]at*;refine⟨⟨?_,oD hk a h.1.2.1,oD hk b h.1.2.2⟩,h.2⟩;rw[dS];intro p hp;exact Ey (eb (ft (List.all_eq_true.1 h.1.1 p hp)) hk)
 | .exit _,_=>rfl
 | .scope b,h=>oD hk b h
 | .label _,_=>rfl
 | .goto _,_=>rfl
 | .ret,_=>rfl
 | .refuse _,_=>rfl
def CJ(tmps:Array Value):ResultVar->Sem Value
 | .tmp t=>pure (tmps.getD t undef)
 | .cell a t=>do loadVar t (<-asAddr (tmps.getD a undef))
def ann(hT:cH P E.a)(r:bA E Z n lo d0 s β a w){x:ResultVar}(he:vR E s x=some v):∃y,(CJ a.tmps x).run P w=.ok y w/\ax E.a w (aY Z s.a β) v (bW E.a s.a β) y:=by
 cases x with
 |tmp t=>simp only[vR,Option.some.injEq]at he;subst he;exact⟨_,rfl,r.m t⟩
 |cell t ty=>
  simp only[vR]at he;split at he
  ·rename_i cs fE;split at he
   ·rename_i hc;rw[au]at hc;obtain⟨b,o,l,hx,hl,hr⟩:=aad hT r.f (λi=>.inr rfl) (r.m t) fE;have hle:=ft hc.2;have row:=hT.D hc.1;have hlen:=hr.I;have hx':a.tmps.getD t undef=.pointer (some ⟨b,o,none⟩):=hx;cases ha:(E.a ty).b with
    |true=>
     rw[ha]at he;simp only[Option.some.injEq]at he;subst he;have gS:(l.take (E.a ty).a).length=(E.a ty).a:=by simp;omega
     have dw:=run_loadCells_list (P:=P) w ⟨b,o,none⟩ (l.take (E.a ty).a) (λj v hj=>by rw[i_];exact hl.I _ j v hj);rw[gS]at dw;refine⟨.agg (l.take (E.a ty).a).toArray,?_,⟨_,rfl,by simpa using hr.so _⟩⟩;simp[CJ,hx',asAddr,loadVar,row.Ct,ha,row.D,dw]
    |false=>
     rw[ha]at he;simp only at he;cases cs with
     |nil=>cases he
     |cons u cs=>simp at he;subst he;obtain⟨y,rest,rfl,h1,_⟩:=hr;have:=hl 0 y rfl;rw[lW]at this;refine⟨y,?_,h1⟩;simp[CJ,hx',asAddr,loadVar,row.Ct,ha,this]
   ·cases he
  ·cases he
def abp(hT:cH P E.a)(r:bA E Z n lo d0 s β a w):∀(l:List ResultVar)(vs:List aa),xQ (l.map (vR E s))=some vs->∃ys,(l.mapM (CJ a.tmps)).run P w=.ok ys w/\aF E.a w (aY Z s.a β) vs (bW E.a s.a β) ys
 | [],vs,h=>by simp[xQ]at h;subst h;exact⟨[],rfl,rfl⟩
 |x::l,vs,h=>by
  rw[lX]at h;cases hx:vR E s x with
  |none=>rw[hx]at h;cases h
  |some v=>
   rw[hx]at h;simp only[xQ]at h;cases hl:xQ (l.map (vR E s))with
   |none=>rw[hl]at h;cases h
   |some us=>rw[hl]at h;simp at h;subst h;obtain⟨y,h1,h2⟩:=ann hT r hx;obtain⟨ys,h3,h4⟩:=abp hT r l us hl;exact⟨y::ys,by simp[List.mapM_cons,h1,h3],⟨y,ys,rfl,h2,h4⟩⟩
def Pz:List aa->aa
 | [v]=>v
 |vs=>.q vs
def ano(hT:cH P E.a)(r:bA E Z n lo d0 s β a w)(h:xQ (fn.results.toList.map (vR E s))=some vs):
  ∃x,(results fn a.tmps).run P w=.ok x w/\ax E.a w (aY Z s.a β) (Pz vs) (bW E.a s.a β) x:=by
 obtain⟨ys,h1,h2⟩:=abp hT r _ _ h;have h3:(fn.results.mapM (CJ a.tmps)).run P w=.ok ys.toArray w:=by rw[Array.mapM_eq_mapM_toList];simp[h1]
 have h4:results fn a.tmps=(do
   let vs<-fn.results.mapM (CJ a.tmps)
   pure (if h:vs.size=1 then vs[0]else .tuple vs)):=by
  unfold results;congr 1
 rw[h4];simp only[eh,h3,fD,ju];refine⟨_,rfl,?_⟩;have hl:=h2.I;match vs,ys,h2,hl with
 | [v],[y],h2,_=>obtain⟨y',r',e,h5,_⟩:=h2;simp only[List.cons.injEq]at e;obtain⟨rfl,rfl⟩:=e;exact h5
 | [],[],h2,_=>exact⟨_,rfl,h2⟩
 |v::u::vs,y::z::ys,h2,_=>exact⟨_,rfl,h2⟩
abbrev aq:=List aa->List aj->af aC
def aL:List (FuncId×aq)->FuncId->aq
 | [],_=>λ_ _=>.d
 | (g,m)::r,f=>(match Nat.beq f g with |true=>m |false=>aL r f)
def abq{T:TypeId->bz}{G:Nat->aa}:∀(l:List (FuncId×aq)),(∀p∈l,ck T G P p.1 p.2)->∀g,ck T G P g (aL l g)
 | [],_,g=>λq u v h=>by simp[aL,af.D]at h
 | (f,m)::r,h,g=>by
  unfold aL;split
  ·rename_i hb;rw[aV hb];exact h (f,m) aB
  ·exact abq r (λp hp=>h p (by simp[hp])) g
def JF(i g:Nat)(hi:i<m)(h:nB m i g=0):g=0:=by unfold nB at h;have:Nat.blt i m=true:=Ey hi;rw[this]at h;exact h
def JG:∀(args:List aa)(t:Nat),j_.vS args t=args.getD t .m
 | [],t=>by simp[j_.vS]
 |v::r,0=>by simp[j_.vS]
 |v::r,t+1=>by simp[j_.vS,JG r t]
def x0{fn:Func}{tmps:Array Value}{R:Ending->World->Prop}{u:FrameMode}(hu:u≠ .run):∀(l:List Nat)(w:World),l.Nodup->(∀D∈l,lo<=D/\w.heap[D]? =some (.deferred (some [])))->
  (∀w',cc lo w w'->LeavesInM Fence.wide 0 P fn tmps R d0.c u w')->LeavesInM Fence.wide 0 P fn tmps R (l.map (λD=>({target:=.collected D,args:= #[]}:Deferred))++d0.c) u w
 | [],w,_,_,h=>h w cc.U
 |D::l,w,hn,hl,h=>by obtain⟨h1,h2⟩:=hl D aB;have oh:=List.nodup_cons.1 hn;refine⟨hu,.inl ⟨D,_,rfl,run_takeDeferred h2,x0 hu l _ oh.2 (λD' hD'=> ?_) (λw' q=>h w' ((cc.abb h2 h1 _).Fo q))⟩⟩;have bL:D'≠D:=λe=>oh.1 (e▸hD');exact⟨(hl D' (by simp[hD'])).1,(oe bL).trans (hl D' (by simp[hD'])).2⟩
def z_(hT:cH P E.a){own:Bool}(jg:xV (a_ ao)){s1:bu}(r':bA E Z n lo d0 s1 β' a w')(hw':dZ ao.length (a_ ao) β w s1.a β' w')
  (Ir:(sk E ao.length own fn s1).D=some out):∃v,(results fn a.tmps).run P w'=.ok v w'/\kE E.a E.b Z ao β w out (.returned v) w':=by
 have cxE:∀l,cY E.a E.b Z (a_ (kB s1.a (nB ao.length) (iQ ao.length s1 l))) (eV β' (iQ ao.length s1 l)) w':=λl=>
  r'.f.U (CA _ _) (λb hb=>.inl hb) r'.f.m (λi _ mi=>r'.f.f i mi)
 have wkE:∀l,dZ ao.length (a_ ao) β w (a_ (kB s1.a (nB ao.length) (iQ ao.length s1 l))) (eV β' (iQ ao.length s1 l)) w':=λl=>
  hw'.V jg (λi hi=>Fx _ _ _ hi) (λi g hi h=>JF i g hi h)
 have hO:∀l b,aY Z (jF s1.a (nB ao.length) (iQ ao.length s1 l)) (eV β' (iQ ao.length s1 l)) b->aY Z s1.a β' b:=λl=>su (λb hb=>.inl hb);unfold sk at Ir;cases B8:xQ (fn.results.toList.map (vR E s1))with
 |none=>rw[B8]at Ir;simp[af.D]at Ir
 |some vs=>
  rw[B8]at Ir;obtain⟨y,pd,iK⟩:=ano hT r' B8;refine⟨y,pd,?_⟩;have zF:(Ow E ao.length own s1 (Pz vs)).D=some out:=by
   match vs,Ir with
   | [],h=>exact h
   | [v],h=>exact h
   |_::_::_,h=>exact h
  unfold Ow at zF;cases own with
  |true=>simp only[af.D,Option.some.injEq]at zF;exact⟨_,_,_,zF.symm,cxE _,wkE _,iK.O8 (hO _)⟩
  |false=>
   simp only at zF;split at zF
   ·rename_i lC;simp only[af.D,Option.some.injEq]at zF;rw[aa.Oi]at lC;unfold xN at lC;rw[au,dS,dS]at lC;refine⟨_,_,_,zF.symm,cxE _,wkE _,?_⟩;refine CB hT r'.f (λi=>.inr rfl) (hO []) (S:=me s1.a (Pz vs).dP) (λi hi j hj=> ?_) (λi hi ha hn ho=> ?_) _ _ _ _ (λi hi=>O6 _ _ hi) iK
    ·have:=lC.2 i hi;simp only[au,dS]at this;simpa using this.2 j hj
    ·have h7:=lC.2 i hi;simp only[au,kr]at h7;have zC:i∉iQ ao.length s1 []:=by simpa using h7.1.2
     by_cases jM:(s1.a i).I=true
     ·have mi:cQ s1.a β' i:=⟨jM,hn⟩
      rcases ho with hz | ⟨k,mk,e⟩
      ·exact r'.f.f i mi hz
      ·obtain⟨j,hj,mj,ej⟩:=nE mk;exact r'.f.d j i (λe'=>zC (by rw[<-e'];exact eg hj)) mj mi (ej.symm.trans e)
     ·exact r'.f.p i ha (by simpa using jM) hn (hO _ _ ho)
   ·simp[af.D]at zF
def abr(hT:cH P E.a)(hC:∀g,ck E.a E.b P g (E.f g))(hI:ud E P:=by exact itersOk_none (λ_ _=>rfl))(hf:P.funcs[f]? =some fn)(gu:(fn.name== "runtime.NumGoroutine")=false)(hb:fn.body=some c)(gI:dI E.e E.g fn.ntmps c=true)
  (own:Bool)(C:List aa->List aj->af aC)(vt:∀args ao out,(C args ao).D=some out->kF E ao.length c/\(aI E own fn args ao).D=some out):ck E.a E.b P f C:=by
 intro args ao out cM iL Z β w bk cx cN;obtain⟨vu,bm⟩:=vt args ao out cM;have h1:fn.name≠ "runtime.NumGoroutine" :=by simpa using gu
 refine .inl ⟨by simp[callFunc,hf,h1,hb],callsIn_wide.1 (Nd (n:=0) hf hb trivial ?_)⟩;unfold aI at bm;rw[hb]at bm;simp only at bm;obtain⟨x,e1,e2⟩:=cm bm;have jg:xV (a_ ao):=by
  intro i ro g t vs hq;rw[oC]at hq;cases ho:ao[i]? with
  |none=>rw[ho]at hq;cases hq
  |some o=>rw[ho]at hq;have:=iL o (eg ho);simp only[lr]at hq;rw[hq]at this;exact this
 have hlen:=cN.I;have r0:bA E Z (bk++Array.replicate (fn.ntmps-bk.size) undef).size w.heap.size ⟨true,[]⟩ (j_ args ao) β {tmps:=bk++Array.replicate (fn.ntmps-bk.size) undef,defers:=[]} w:=by
  refine⟨cx,λt=> ?_,rfl,gg.I fR.I⟩;show ax _ _ _ (j_.vS args t) _ _;rw[JG];by_cases ht:t<args.length
  ·have h2:args[t]? =some args[t]:=cV ht;obtain⟨y,h3,h4⟩:=aF.vU t _ cN h2;have h5:(bk++Array.replicate (fn.ntmps-bk.size) undef).getD t undef=y:=by
    have h6:t<bk.size:=by simp at hlen;omega
    rw[fh,Ez h6];have:bk[t]? =some y:=by simpa using h3
    rw[this];rfl
   show ax _ _ _ _ _ ((bk++Array.replicate (fn.ntmps-bk.size) undef).getD t undef);rw[h5,dD,h2];exact h4
  ·rw[dD,kY ab];exact trivial
 have YH:qf (j_ args ao):=λi hi=>by show a_ ao i=.c;rw[oC,kY hi];rfl
 refine tC (nF hT hC hI c ⟨true,[]⟩ Fence.wide 0 _ _ _ (.inl rfl) (dZ.U (m:=ao.length) (β0:=β) (w0:=w) jg) (bj _) _ x β _ w (oD (by simp;omega) c gI) (λh=>by rcases h with h |h;exact absurd rfl h;cases h) vu e1 r0 YH dZ.D) (λe a' w1 hp=> ?_);obtain⟨β',r1,hf',iM,hx⟩:=hp;obtain⟨_,lD,xD,_,xE,ot⟩:=r1.z;have rq:∀w',cc w.heap.size w1 w'->bA E Z (bk++Array.replicate (fn.ntmps-bk.size) undef).size w.heap.size ⟨true,[]⟩ x.2 β' {a' with defers:=[]} w':=λw' q=>
  bA.U ⟨r1.f,r1.m,r1.p,gg.I fR.I⟩ q aB
 suffices hs:∀w',cc w.heap.size w1 w'->(match e with | .normal | .ret=>∃v,(results fn a'.tmps).run P w'=.ok v w'/\kE E.a E.b Z ao β w out (.returned v) w' | .panic chain=>kE E.a E.b Z ao β w out (.panicked chain) w' |_=>False)by
  cases e with
  |normal=>show LeavesInM _ _ _ _ _ _ _ _ _;rw[xD];exact x0 aB lD w1 xE (λD hD=>⟨(ot D hD).1,(ot D hD).2.1⟩) (λw' q=>hs w' q)
  |ret=>show LeavesInM _ _ _ _ _ _ _ _ _;rw[xD];exact x0 aB lD w1 xE (λD hD=>⟨(ot D hD).1,(ot D hD).2.1⟩) (λw' q=>hs w' q)
  |panic chain=>show LeavesInM _ _ _ _ _ _ _ _ _;rw[xD];exact x0 aB lD w1 xE (λD hD=>⟨(ot D hD).1,(ot D hD).2.1⟩) (λw' q=>hs w' q)
  |exit i=>exact(hs w1 cc.U).elim
  |goto l=>exact(hs w1 cc.U).elim
  |outgrown=>exact(hs w1 cc.U).elim
 intro w' q;have r':=rq w' q;have hw':=iM.I q;obtain⟨ex,s1⟩:=x;have cxE:∀l,cY E.a E.b Z (a_ (kB s1.a (nB ao.length) (iQ ao.length s1 l))) (eV β' (iQ ao.length s1 l)) w':=λl=>
  r'.f.U (CA _ _) (λb hb=>.inl hb) r'.f.m (λi _ mi=>r'.f.f i mi)
 have wkE:∀l,dZ ao.length (a_ ao) β w (a_ (kB s1.a (nB ao.length) (iQ ao.length s1 l))) (eV β' (iQ ao.length s1 l)) w':=λl=>
  hw'.V jg (λi hi=>Fx _ _ _ hi) (λi g hi h=>JF i g hi h)
 have hO:∀l b,aY Z (jF s1.a (nB ao.length) (iQ ao.length s1 l)) (eV β' (iQ ao.length s1 l)) b->aY Z s1.a β' b:=λl=>su (λb hb=>.inl hb);have fin:(sk E ao.length own fn s1).D=some out->∃v,(results fn a'.tmps).run P w'=.ok v w'/\kE E.a E.b Z ao β w out (.returned v) w':=z_ (a:={a' with defers:=[]}) hT jg r' hw';cases ex with
 |b=>
  cases e with
  |normal=>exact fin e2
  |_=>exact hx.elim
 |c=>
  cases e with
  |ret=>exact fin e2
  |_=>exact hx.elim
 |a i=>simp[af.D]at e2
 |d l=>simp[af.D]at e2
 |e v=>
  simp only[Fi,af.D,Option.some.injEq]at e2;cases e with
  |panic ch=>obtain⟨k1,y,k2,k3⟩:=hx;refine⟨_,_,_,y,e2.symm,k1,k2,cxE _,wkE _,?_⟩;exact ax.D (cz.D (hO _)) _ _ _ _ (λ_ _ h=>h) (ax.I v _ _ y (λ_ _ _ h=>h.elim) (ax.U q _ _ _ k3))
  |_=>exact hx.elim
end
variable{C:FuncId->aq}{M:aq}
section
variable{T:TypeId->bz}{G:Nat->aa}{E:bD}{P:Program}{Z:Nat->Prop}{n lo m:Nat}{d0:fR}{s:bu}{β:Nat->bd}{w:World}{a:Act}
def anp{args:Array Value}{u:FrameMode}{w:World}{R:Ending->FrameMode->World->Prop}
  (hf:P.funcs[f]? =some fn)(hb:fn.body=some c)
  (h:∀(c₀:Frame)(cs:List Frame),c₀.mode=u->
   c.wpS P (bodyPostS P fn c₀ cs R) {tmps:=args++Array.replicate (fn.ntmps-args.size) undef,defers:=[]} (c₀::cs) w):
  CallsDIn Fence.wide k P f args u w R:=by
 refine⟨trivial,λc₀ cs hu _=> ?_⟩
 let b:Frame:={(default:Frame)with fn:=f,kind:=.deferred}
 have aKW:Frame.enter P f args .deferred=
   b.at {tmps:=args++Array.replicate (fn.ntmps-args.size) undef,defers:=[]} [.code c]:=by
  simp[Frame.enter,Frame.at,hf,hb,b]
 obtain⟨e,a',cs',w',hq,B9⟩:=h c₀ cs hu b [] rfl rfl;rw[<-aKW]at B9;cases e with
 |normal=>obtain⟨hd,u',rfl,v,hr,hR⟩:=hq;exact⟨.returned v,u',w',_,hR,comesIn_wide.2 (Steps.trans B9 (.one step_end)),rfl,rfl,rfl,hd,fn,hf,hr⟩
 |ret=>obtain⟨hd,u',rfl,v,hr,hR⟩:=hq;obtain⟨todo,hs⟩:=B9;exact⟨.returned v,u',w',_,hR,comesIn_wide.2 hs,rfl,rfl,rfl,hd,fn,hf,hr⟩
 |panic chain=>obtain⟨hd,u',rfl,hR⟩:=hq;obtain⟨todo,hs⟩:=B9;exact⟨.panicked chain,u',w',_,hR,comesIn_wide.2 hs,rfl,rfl,rfl,hd,fn,hf⟩
 |exit id=>exact hq.elim
 |goto l=>exact hq.elim
 |outgrown=>obtain⟨u',hR⟩:=hq;exact⟨.outgrown,u',w',b,hR,comesIn_wide.2 (B9.resolve_left (by simp[b])),rfl,rfl,trivial⟩
def PA(T:TypeId->bz)(w:World)(O:Nat->Prop):Option aa->FrameMode->Prop
 |none,u=>u=.returning
 |some v,u=>∃y,u=.panicking [{v:=y,recovered:=false}]/\ax T w O v bh y
structure Aa(T:TypeId->bz)(G:Nat->aa)(P:Program)(f:FuncId)(C:Option aa->aq):Prop where
 a:∀args w,(callFunc f args).run P w=.ok (.enter f args) w
 b:∀rv args ao out,(C rv args ao).D=some out->(∀o∈ao,o.V=0)->∀(Z:Nat->Prop) β w(bk:Array Value) u,cY T G Z (a_ ao) β w->aF T w (aY Z (a_ ao) β) args (bW T (a_ ao) β) bk.toList->PA T w (aY Z (a_ ao) β) rv u->
  CallsDIn Fence.wide 0 P f bk u w (λe u' w'=>(∃x,e=.returned x)/\settle u'=.returning/\kE T G Z ao β w out e w')
def x8{ops:Array Oper}{Q':Exit->Act->World->Prop}{Q:Exit->Act->List Frame->World->Prop}{cs:List Frame}(hq:¬LetsOut Q')(hQ:∀e a w,Q' e a w->Q e a cs w):
  ∀(l:List Nat)(a:Act)(w:World),wpOps P ops Q' l a w->wpOpsS P ops Q l a cs w
 | [],a,w,h=>hQ _ _ _ h
 |i::rest,a,w,h=>by
  unfold wpOps at h;unfold wpOpsS;cases ho:ops[i]? with
  |none=>rw[ho]at h;exact x8 hq hQ rest a w h
  |some o=>
   rw[ho]at h;simp only at h⊢;split
   ·rename_i hw;rw[if_pos hw]at h;rcases h with h |h
    ·unfold Oper.wp at h;cases hr:(execOp a.eval o).run P w with
     |ok x w'=>
      rw[hr]at h;cases x with
      |value v=>exact x8 hq hQ rest _ _ h
      |skip=>exact x8 hq hQ rest _ _ h
      |defer d=>exact x8 hq hQ rest _ _ h
      |enter f args=>
       refine Nf h (λe w'' he=> ?_);cases e with
       |returned v=>exact x8 hq hQ rest _ _ he
       |panicked chain=>exact hQ _ _ _ he
       |outgrown=>exact absurd he hq
      |row r args=>exact Rows.mono h (λv w'' hv=>x8 hq hQ rest _ _ hv)
      |_=>exact h.elim
     |halt r w'=>
      rw[hr]at h;cases r with
      |panic v=>exact hQ _ _ _ h
      |_=>exact h.elim
    ·exact absurd h.2 hq
   ·rename_i hw;rw[if_neg hw]at h;exact x8 hq hQ rest _ _ h
def JH(o:Oper):Option Nat:=match o.op,o.guard,o.dst with
 | .call c,none,some t=>(match c.callee with | .builtin .recover=>some t |_=>none)
 |_,_,_=>none
def JI:Option aa->aa |none=>.M |some v=>v
def abt(E:bD)(m:Nat)(rv:Option aa):Code->bu->af (aU×bu)
 | .seq (.region _ ops false) rest,s=>(match ops.toList.head?.bind JH with
  |some t=>(c8 E false gb ops.toList s.c (List.range ops.toList.length).tail {s with b:=bO s.b t (JI rv)}).U λx=>match x with
   | .a s'=>cy E m rest {s' with c:=s.c+64*ops.toList.length}
   | .b _ _=>.d
  |none=>.d)
 |_,_=>.d
def FG(E:bD)(f:Func)(rv:Option aa)(args:List aa)(ao:List aj):af aC:=
 match f.body with
 |some c=>(abt E ao.length rv c (j_ args ao)).U λx=>match x.1 with
  | .b=>sk E ao.length false f x.2
  | .c=>sk E ao.length false f x.2
  |_=>.d
 |none=>.d
def JJ(mode:FuncId->List Bool)(dyn:Nat->Bool)(n:Nat):Code->Bool
 | .seq (.region _ ops false) rest=>(ops.toList.all λo=>match o.dst with |some d=>Nat.blt d n |none=>true) &&dI mode dyn n rest &&jG rest
 |_=>false
def abu{b:Bool}(cx:cY E.a E.b Z (a_ ao) β w)(cN:aF E.a w (aY Z (a_ ao) β) args (bW E.a (a_ ao) β) bk.toList):
  bA E Z (bk++Array.replicate (k-bk.size) undef).size lo ⟨b,[]⟩ (j_ args ao) β {tmps:=bk++Array.replicate (k-bk.size) undef,defers:=[]} w:=by
 have hlen:=cN.I;refine⟨cx,λt=> ?_,rfl,gg.I fR.I⟩;show ax _ _ _ (j_.vS args t) _ _;rw[JG];by_cases ht:t<args.length
 ·have h2:args[t]? =some args[t]:=cV ht;obtain⟨y,h3,h4⟩:=aF.vU t _ cN h2;have h5:(bk++Array.replicate (k-bk.size) undef).getD t undef=y:=by
   have h6:t<bk.size:=by simp at hlen;omega
   rw[fh,Ez h6];have:bk[t]? =some y:=by simpa using h3
   rw[this];rfl
  show ax _ _ _ _ _ ((bk++Array.replicate (k-bk.size) undef).getD t undef);rw[h5,dD,h2];exact h4
 ·rw[dD,kY ab];exact trivial
def PC:qf (j_ args ao):=λi hi=>by show a_ ao i=.c;rw[oC,kY hi];rfl
def PD(iL:∀o∈ao,o.V=0):xV (a_ ao):=by
 intro i ro g t vs hq;rw[oC]at hq;cases ho:ao[i]? with
 |none=>rw[ho]at hq;cases hq
 |some o=>rw[ho]at hq;have:=iL o (eg ho);simp only[lr]at hq;rw[hq]at this;exact this
def abv(h:(ops.toList.all λo=>match o.dst with |some d=>Nat.blt d n |none=>true)=true):∀(i:Nat)(t:Tmp),(ops[i]?).bind (λo:Oper=>o.dst)=some t->t<n:=by
 intro i t ht;rw[dS]at h;cases ho:ops[i]? with
 |none=>rw[ho]at ht;cases ht
 |some o=>
  rw[ho]at ht;have h1:=h o (by
   have:ops.toList[i]? =some o:=by rw[fu];exact ho
   exact eg this)
  have ht:o.dst=some t:=ht;rw[ht]at h1;exact ft h1
def anq{t:Nat}(h:JH o=some t):o.guard=none/\o.dst=some t/\∀ρ w,(execOp ρ o).run P w=.ok .recover w:=by
 unfold JH at h;split at h
 ·rename_i c t' ho hg hd;split at h
  ·rename_i hc;simp only[Option.some.injEq]at h;subst h;refine⟨hg,hd,λρ w=> ?_⟩;obtain⟨callee,args,argTypes⟩:=c;simp only at hc;subst hc;simp[execOp,ho,resolve,invoke,builtin]
  ·cases h
 ·cases h
def abw(hT:cH P E.a)(hC:∀g,ck E.a E.b P g (E.f g))(hI:ud E P)(hf:P.funcs[f]? =some fn)(gu:(fn.name== "runtime.NumGoroutine")=false)(hb:fn.body=some c)(gI:JJ E.e E.g fn.ntmps c=true)
  (C:Option aa->aq)(vt:∀rv args ao out,(C rv args ao).D=some out->kF E ao.length c/\(FG E fn rv args ao).D=some out):Aa E.a E.b P f C:=by
 have h1:fn.name≠ "runtime.NumGoroutine" :=by simpa using gu
 refine⟨λargs w=>by simp[callFunc,hf,h1,hb],?_⟩;intro rv args ao out cM iL Z β w bk u cx cN Is;obtain⟨vu,bm⟩:=vt rv args ao out cM;unfold FG at bm;rw[hb]at bm;simp only at bm;obtain⟨x,e1,e2⟩:=cm bm;have jg:=PD iL;unfold abt at e1;split at e1
 ·rename_i id ops rest;split at e1
  ·rename_i t ga;obtain⟨x1,f1,f2⟩:=cm e1;cases x1 with
   |b v s'=>simp[af.D]at f2
   |a s1=>
   simp only at f2;unfold JJ at gI;simp only[au]at gI;obtain⟨⟨l_,aKX⟩,aKY⟩:=gI;obtain⟨o,os,ajW,ho⟩:∃o os,ops.toList=o::os/\JH o=some t:=by
    cases hq:ops.toList with
    |nil=>rw[hq]at ga;simp at ga
    |cons o os=>rw[hq]at ga;exact⟨o,os,rfl,by simpa using ga⟩
   obtain⟨hg,hd,rY⟩:=anq (P:=P) ho;have Nz:ops[0]? =some o:=by rw[<-fu,ajW];rfl
   obtain⟨tl,NN⟩:∃tl,List.range ops.toList.length=0::tl:=by rw[ajW,eM,List.range_succ_eq_map];exact⟨_,rfl⟩
   rw[NN,List.tail_cons]at f1;have bE:ops.toList.length=ops.size:=aB;have aKZ:∀d,d<fn.ntmps->d<(bk++Array.replicate (fn.ntmps-bk.size) undef).size:=λd hd=>by simp;omega
   have hd':∀(i:Nat)(t:Tmp),(ops[i]?).bind (λo:Oper=>o.dst)=some t->t<(bk++Array.replicate (fn.ntmps-bk.size) undef).size:=λi t ht=>aKZ _ (abv l_ i t ht);refine anp hf hb (λc₀ cs hu=>wpS_seq (wpS_region ?_));rw[<-bE,NN];unfold wpOpsS;rw[Nz];simp only;have YI:Region.wanted o (yielded ops (bk++Array.replicate (fn.ntmps-bk.size) undef))=true:=by simp[Region.wanted,hg]
   rw[if_pos YI,rY];simp only;obtain⟨y,u',jd,hy,aK0⟩:∃y u',settle u'=.returning/\ax E.a w (aY Z (a_ ao) β) (JI rv) (bW E.a (a_ ao) β) y/\∀(Q:Exit->Act->List Frame->World->Prop)(a:Act),wpOpsS P ops Q tl (a.put o.dst y) ({c₀ with mode:=u'}::cs) w->
     (match recoverD (c₀::cs)with |some (v,cs')=>wpOpsS P ops Q tl (a.put o.dst v) cs' w |none=>wpOpsS P ops Q tl (a.put o.dst .nilIface) (c₀::cs) w):=by
    cases rv with
    |none=>
     have hu':c₀.mode=.returning:=hu.trans Is;refine⟨.nilIface,.returning,rfl,rfl,λQ a h=> ?_⟩;have HX:({c₀ with mode:=.returning}:Frame)=c₀:=by rw[<-hu']
     rw[HX]at h;simpa[recoverD,hu'] using h
    |some v=>obtain⟨y,hm,hy⟩:=Is;have hu':c₀.mode=.panicking [{v:=y,recovered:=false}]:=hu.trans hm;refine⟨y,.panicking [{v:=y,recovered:=true}],rfl,ax.D (cz.D (λ_ h=>h)) _ _ _ _ (λ_ _ h=>h.elim) hy,λQ a h=> ?_⟩;simpa[recoverD,hu'] using h
   refine aK0 _ _ ?_;have r0:=abu (E:=E) (lo:=w.heap.size) (k:=fn.ntmps) (b:=false) cx cN;have r1:bA E Z (bk++Array.replicate (fn.ntmps-bk.size) undef).size w.heap.size ⟨false,[]⟩ {j_ args ao with b:=bO (j_ args ao).b t (JI rv)} β (Act.put {tmps:=bk++Array.replicate (fn.ntmps-bk.size) undef,defers:=[]} o.dst y) w:=by have hs:=r0.m.D (d:=some t) (v:=JI rv) (x:=y) (λt' ht=>by simp only[Option.some.injEq]at ht;subst ht;exact hd' 0 t (by rw[Nz];exact hd)) hy;rw[hd];exact⟨r0.f,hs,by rw[fS],by rw[jT];exact gg.I fR.I⟩
   obtain⟨R,hR⟩:∃R:Exit->Act->World->Prop,R=λe a' w'=>∃s' β',e=.normal/\bA E Z (bk++Array.replicate (fn.ntmps-bk.size) undef).size w.heap.size ⟨false,[]⟩ s' β' a' w'/\qf s'/\dZ ao.length (a_ ao) β w s'.a β' w'/\(cy E ao.length rest s').D=some x:=⟨_,rfl⟩
   have aK1:(0::tl).Nodup:=NN▸M';have iM:wpOps P ops R tl (Act.put {tmps:=bk++Array.replicate (fn.ntmps-bk.size) undef,defers:=[]} o.dst y) w:=by
    refine JB hT hC hd' tl _ β _ w (.a s1) r1 (List.nodup_cons.1 aK1).2 (λj _ i hi=>PC (args:=args) (ao:=ao) i (by have hi':gN (j_ args ao).c j i:=hi;unfold gN at hi';omega)) f1 ⟨λs' β' a' w' hx r' st' d' n'=> ?_,λv s' β' a' w' y hx=>by cases hx⟩;injection hx with hx;subst hx;rw[hR];refine⟨{s1 with c:=(j_ args ao).c+64*ops.toList.length},β',rfl,⟨r'.f,r'.m,r'.p,r'.z⟩,λi hi=> ?_,dZ.D.Jv st'.U,f2⟩;have hi':(j_ args ao).c+64*ops.toList.length<=i:=hi;refine d' i (PC (args:=args) (ao:=ao) i ab) (λj hj hc=> ?_);have:j<ops.toList.length:=by have:j∈List.range ops.toList.length:=NN▸oX _ hj;simpa using this
    have hc':gN (j_ args ao).c j i:=hc;unfold gN at hc';omega
   refine x8 (Q':=R) (by rw[hR];rintro⟨a',w',s',β',h,_⟩;cases h) (λe a' w' hp=> ?_) tl _ w iM;rw[hR]at hp;obtain⟨s',β',rfl,r',aK2,aK3,hex⟩:=hp;show rest.wpS P _ a' _ w';refine wpS_of_wp ?_;have ajX:=nF hT hC hI rest ⟨false,[]⟩ Fence.wide 0 ao.length w.heap.size _ (.inl rfl) (dZ.U (m:=ao.length) (β0:=β) (w0:=w) jg) (bj _) s' x β' a' w' (oD (by simp;omega) rest aKX) (λ_=>aKY) vu.2 hex r' aK2 aK3;rw[zo]at ajX;refine wp_mono ajX (λe a2 w2 hp=> ?_);obtain⟨β2,r2,_,wk2,hx⟩:=hp;obtain⟨ex,s2⟩:=x;have vy:a2.defers=[]:=by obtain⟨_,l,h3,h4,_⟩:=r2.z;rw[h3,h4 rfl];rfl
   cases ex with
   |b=>
    cases e with
    |normal=>obtain⟨v,h5,h6⟩:=z_ hT jg r2 wk2 e2;exact⟨vy,u',rfl,v,h5,⟨v,rfl⟩,jd,h6⟩
    |_=>exact hx.elim
   |c=>
    cases e with
    |ret=>obtain⟨v,h5,h6⟩:=z_ hT jg r2 wk2 e2;exact⟨vy,u',rfl,v,h5,⟨v,rfl⟩,jd,h6⟩
    |_=>exact hx.elim
   |a i=>simp[af.D]at e2
   |d l=>simp[af.D]at e2
   |e v=>simp[af.D]at e2
  ·simp[af.D]at e1
 ·simp[af.D]at e1
end
def JK(o:Oper):Option Nat:=match o.op,o.guard,o.dst with
 | .defer c,none,none=>(match c.callee,c.args.toList with | .value (.tmp t),[]=>some t |_,_=>none)
 |_,_,_=>none
def CK:Code->Option (Nat×Array Oper×Nat)
 | .region id ops false=>(match ops.toList.getLast?.bind JK with |some t=>some (id,ops,t) |none=>none)
 |_=>none
def PE(m:Nat)(l:List aa):Bool:=l.all λv=>match v with | .e i _=>Nat.blt i m |_=>false
def sB(E:bD)(m:Nat):Code->bu->af (aU×bu×Option (FuncId×List aa))
 | .seq a b,s=>(match CK a with
  |some (id,ops,t)=>(c8 E false gb ops.toList s.c (List.range (ops.toList.length-1)) s).U λx=>match x with
   | .a s1=>(match(dx (E.c id) (jS (E.c id) m s1) (gK (E.c id) m s1)).b t with
    | .z g [] eN=>(match PE (gK (E.c id) m s1).length eN && (gK (E.c id) m s1).all (λo=>Nat.beq o.V 0)with
     |true=>(cy E (gK (E.c id) m s1).length b (dx (E.c id) (jS (E.c id) m s1) (gK (E.c id) m s1))).U λy=>.g (y.1,y.2,some (g,eN))
     |false=>.d)
    |_=>.d)
   | .b _ _=>.d
  |none=>(cy E m a s).U λy=>match y.1 with
   | .b=>sB E m b y.2
   |e=>.g (e,y.2,none))
 |c,s=>(cy E m c s).U λy=>.g (y.1,y.2,none)
def ri:aU->Option (Option aa)
 | .b=>some none
 | .c=>some none
 | .e v=>(match v.lE with |true=>some (some v) |false=>none)
 |_=>none
def qg(E:bD)(CD:FuncId->Option aa->aq)(own:Bool)(f:Func)(args:List aa)(ao:List aj):af aC:=
 match f.body with
 |some c=>(sB E ao.length c (j_ args ao)).U λx=>match x.2.2 with
  |none=>(match x.1 with
   | .b=>sk E ao.length own f x.2.1
   | .c=>sk E ao.length own f x.2.1
   | .e v=>Fi ao.length x.2.1 v
   |_=>.d)
  |some (g,eN)=>(match ri x.1 with
   |some rv=>(Cq {E with f:=λ_=>CD g rv} x.2.1.a x.2.1.c g eN).U λr=>match r with
    | .a _ u=>sk E ao.length own f {x.2.1 with a:=bU x.2.1.a u,c:=x.2.1.c+64}
    | .b _ _=>.d
   |none=>.d)
 |none=>.d
def abx(n:Nat)(ops:Array Oper):Bool:=ops.toList.all λo=>match o.dst with |some d=>Nat.blt d n |none=>true
def ue(mode:FuncId->List Bool)(dyn:Nat->Bool)(n:Nat):Code->Bool
 | .seq a b=>(match CK a with
  |some (_,ops,_)=>abx n ops &&dI mode dyn n b
  |none=>dI mode dyn n a &&jG a &&ue mode dyn n b)
 |c=>dI mode dyn n c &&jG c
section
variable{T:TypeId->bz}{G:Nat->aa}{E:bD}{P:Program}{Z:Nat->Prop}{n lo m:Nat}{d0:fR}{s:bu}{β:Nat->bd}{w:World}{a:Act}
def x_{ops:Array Oper}{Q Q':Exit->Act->World->Prop}{k:Nat}(h0:∀a w,Q' .normal a w->wpOps P ops Q [k] a w)(h1:∀e a w,e≠ .normal->Q' e a w->Q e a w):
  ∀(l:List Nat)(a:Act)(w:World),wpOps P ops Q' l a w->wpOps P ops Q (l++ [k]) a w
 | [],a,w,h=>h0 a w h
 |i::rest,a,w,h=>by
  rw[u9];unfold wpOps at h⊢;cases ho:ops[i]? with
  |none=>rw[ho]at h;exact x_ h0 h1 rest a w h
  |some o=>
   rw[ho]at h;simp only at h⊢;split
   ·rename_i hw;rw[if_pos hw]at h;rcases h with h |h
    ·refine .inl ?_;unfold Oper.wp at h⊢;cases hr:(execOp a.eval o).run P w with
     |ok x w'=>
      rw[hr]at h;cases x with
      |value v=>exact x_ h0 h1 rest _ _ h
      |skip=>exact x_ h0 h1 rest _ _ h
      |defer d=>exact x_ h0 h1 rest _ _ h
      |enter f args=>
       refine Nf h (λe w'' he=> ?_);cases e with
       |returned v=>exact x_ h0 h1 rest _ _ he
       |panicked chain=>exact h1 _ _ _ aB he
       |outgrown=>obtain⟨a2,w2,h2⟩:=he;exact⟨a2,w2,h1 _ _ _ aB h2⟩
      |row r args=>exact Rows.mono h (λv w'' hv=>x_ h0 h1 rest _ _ hv)
      |_=>exact h.elim
     |halt r w'=>
      rw[hr]at h;cases r with
      |panic v=>exact h1 _ _ _ aB h
      |_=>exact h.elim
    ·obtain⟨ha,a2,w2,h2⟩:=h;exact .inr ⟨ha,a2,w2,h1 _ _ _ aB h2⟩
   ·rename_i hw;rw[if_neg hw]at h;exact x_ h0 h1 rest _ _ h
def anr{t:Nat}(h:JK o=some t):o.guard=none/\o.dst=none/\∀(ρ:Operand->Value) w(fv:Fn)(q:Array Value),ρ (.tmp t)=.func fv #[] q->(execOp ρ o).run P w=.ok (.defer {target:=.fn fv q,args:= #[]}) w:=by
 unfold JK at h;split at h
 ·rename_i c ho hg hd;split at h
  ·rename_i t' hc cN;simp only[Option.some.injEq]at h;subst h;refine⟨hg,hd,λρ w fv q hq=> ?_⟩;obtain⟨callee,args,argTypes⟩:=c;simp only at hc cN;subst hc;have:args= #[]:=by obtain⟨l⟩:=args;simp at cN;rw[cN]
   subst this;simp[execOp,ho,resolve,hq,Deferred.ofValue]
  ·cases h
 ·cases h
def ans{id:Nat}{t:Nat}(h:CK c=some (id,ops,t)):c=.region id ops false/\∃o,ops.toList.getLast?=some o/\JK o=some t:=by
 unfold CK at h;split at h
 ·split at h
  ·rename_i t' hq;simp only[Option.some.injEq,Prod.mk.injEq]at h;obtain⟨rfl,rfl,rfl⟩:=h;refine⟨rfl,?_⟩;cases hl:(Array.toList _).getLast? with
   |none=>rw[hl]at hq;simp at hq
   |some o=>rw[hl]at hq;exact⟨o,rfl,by simpa using hq⟩
  ·cases h
 ·cases h
def FH(E:bD)(Z:Nat->Prop)(n lo:Nat)(K:(Nat->aj)->(Nat->bd)->World->Prop)(x:aU×bu×Option (FuncId×List aa)):Exit->Act->World->Prop:=λe a w=>match x.2.2 with
 |none=>px E Z n lo ⟨false,[]⟩ K (x.1,x.2.1) e a w
 |some (g,eN)=>∃(q:Array Value)(β:Nat->bd),bA E Z n lo ⟨true,[{target:=.fn (.func g) q,args:= #[]}]⟩ x.2.1 β a w/\qf x.2.1/\K x.2.1.a β w/\z8 E Z x.2.1 β w x.1 e/\aF E.a w (aY Z x.2.1.a β) eN (bW E.a x.2.1.a β) q.toList
def aby{h h':Nat->aj}{β β':Nat->bd}{w w':World}{O O':Nat->Prop}{k:Nat}(hd:∀i,i<k->iz (h i) (β i) (h' i) (β' i)):∀{l:List aa}{xs:List Value},PE k l=true->aF T w O l (bW T h β) xs->aF T w' O' l (bW T h' β') xs
 | [],_,_,h=>h
 |v::l,_,hb,⟨x,r,e,h1,h2⟩=>by
  unfold PE at hb;rw[ja,au]at hb;refine⟨x,r,e,?_,aby hd hb.2 h2⟩;cases v with
  |e i j=>have hi:i<k:=ft hb.1;obtain⟨⟨ro,cs,e1⟩,rfl⟩:=h1;have:=hd i hi;rw[e1]at this;obtain⟨⟨ro',cs',e'⟩,It⟩:=this;exact⟨⟨ro',cs',e'⟩,by rw[It]⟩
  |_=>simp at hb
def ant(hT:cH P E.a)(hC:∀g,ck E.a E.b P g (E.f g))(hI:ud E P){B:Nat}{K:(Nat->aj)->(Nat->bd)->World->Prop}(hK:mh m B K)(dT:lo<=B):
  ∀(c:Code)(s:bu)(x:aU×bu×Option (FuncId×List aa))(β:Nat->bd)(a:Act)(w:World),ue E.e E.g n c=true->(∀m',kF E m' c)->(sB E m c s).D=some x->bA E Z n lo ⟨false,[]⟩ s β a w->qf s->K s.a β w->c.wp P (FH E Z n lo K x) a w:=by
 have plain:∀(c:Code)(s:bu)(x:aU×bu×Option (FuncId×List aa))(β:Nat->bd)(a:Act)(w:World),(dI E.e E.g n c &&jG c)=true->(∀m',kF E m' c)->((cy E m c s).U λy=>(.g (y.1,y.2,none):af (aU×bu×Option (FuncId×List aa)))).D=some x->bA E Z n lo ⟨false,[]⟩ s β a w->qf s->K s.a β w->c.wp P (FH E Z n lo K x) a w:=by intro c s x β a w hc hl he r hf hw;rw[au]at hc;obtain⟨y,e1,e2⟩:=cm he;simp only[af.D,Option.some.injEq]at e2;subst e2;have:=nF hT hC hI c ⟨false,[]⟩ Fence.wide 0 m B K (.inl rfl) hK dT s y β a w hc.1 (λ_=>hc.2) (hl m) e1 r hf hw;rw[zo]at this;exact this
 intro c;induction c with
 |seq ca cb _ ihb=>
  intro s x β a w hc hl he r hf hw;unfold sB at he;unfold ue at hc;cases YJ:CK ca with
  |none=>
   rw[YJ]at he hc;simp only[au]at hc;simp only at he;obtain⟨y,e1,e2⟩:=cm he;have h1:=nF hT hC hI ca ⟨false,[]⟩ Fence.wide 0 m B K (.inl rfl) hK dT s y β a w hc.1.1 (λ_=>hc.1.2) (hl m).1 e1 r hf hw;rw[zo]at h1;refine wp_seq (wp_mono h1 (λe a' w' hp=> ?_));obtain⟨β',r',hf',hw',hx⟩:=hp;obtain⟨ex,s1⟩:=y;have out:∀ex',ex=ex'->ex'≠ .b->x=(ex',s1,none)->z8 E Z s1 β' w' ex' e->Exit.then (cb.wp P (FH E Z n lo K x)) (FH E Z n lo K x) e a' w':=by
    intro ex' h2 bL h3 h4;subst h3;have h5:FH E Z n lo K (ex',s1,none) e a' w':=⟨β',r',hf',hw',h4⟩
    cases e with
    |normal=>cases ex'<;>first |exact h4.elim |exact absurd rfl bL
    |_=>exact h5
   cases ex with
   |b=>
    cases e with
    |normal=>exact ihb s1 x β' a' w' hc.2 (λm'=>(hl m').2) e2 r' hf' hw'
    |_=>exact hx.elim
   |a i=>simp only[af.D,Option.some.injEq]at e2;exact out (.a i) rfl aB e2.symm hx
   |c=>simp only[af.D,Option.some.injEq]at e2;exact out .c rfl aB e2.symm hx
   |e v=>simp only[af.D,Option.some.injEq]at e2;exact out (.e v) rfl aB e2.symm hx
   |d l=>simp only[af.D,Option.some.injEq]at e2;exact out (.d l) rfl aB e2.symm hx
  |some p=>
   obtain⟨id,ops,t⟩:=p;rw[YJ]at he hc;simp only[au]at hc;simp only at he;obtain⟨rfl,o,Iu,Ig⟩:=ans YJ;obtain⟨x1,e1,e2⟩:=cm he;cases x1 with
   |b v s'=>simp[af.D]at e2
   |a s1=>
   simp only at e2;obtain⟨vs,B8⟩:∃vs,vs=jS (E.c id) m s1:=⟨_,rfl⟩
   obtain⟨os,NO⟩:∃os,os=gK (E.c id) m s1:=⟨_,rfl⟩
   rw[<-B8,<-NO]at e2;split at e2
   ·rename_i g eN YK;split at e2
    ·rename_i YL;rw[au]at YL;obtain⟨y,e3,e4⟩:=cm e2;simp only[af.D,Option.some.injEq]at e4;subst e4;obtain⟨om,NH,bm⟩:=anr (P:=P) Ig;have bL:ops.toList≠ []:=by intro h;rw[h]at Iu;cases Iu
     have bE:ops.toList.length=ops.size:=aB;have lA:0<ops.toList.length:=List.length_pos_iff.2 bL;obtain⟨k,hk⟩:∃k,ops.toList.length=k+1:=⟨ops.toList.length-1,ab⟩
     have bH:ops[k]? =some o:=by rw[<-fu];rw[List.getLast?_eq_getElem?]at Iu;rw[hk]at Iu;exact Iu
     rw[hk,Nat.add_sub_cancel]at e1;refine wp_seq (wp_region ?_);rw[<-bE,hk,List.range_succ];refine x_ (Q':=λe a' w'=>∃β',e=.normal/\bA E Z n lo ⟨false,[]⟩ s1 β' a' w'/\K s1.a β' w') (λa' w' hp=> ?_) (λe a' w' bL hp=>by obtain⟨_,he,_⟩:=hp;exact absurd he bL) _ _ _ ?_
     ·obtain⟨β',_,r',hw'⟩:=hp;have rc:=sx (m:=m) (E.c id) r';rw[<-B8,<-NO]at rc;have NP:=sz (s:=s1) hK (E.c id) hw';rw[<-B8,<-NO]at NP;have jx:=rc.m t;rw[YK]at jx;obtain⟨p,q,hq,Yy,Iq⟩:=jx;have HW:p= #[]:=by obtain⟨l⟩:=p;have:l=[]:=Yy;rw[this]
      subst HW;have vy:a'.defers=[]:=by obtain⟨_,l,h3,h4,_⟩:=r'.z;rw[h3,h4 rfl];rfl
      unfold wpOps;rw[bH];simp only;have YI:Region.wanted o (yielded ops a'.tmps)=true:=by simp[Region.wanted,om]
      rw[if_pos YI];refine .inl ?_;unfold Oper.wp;rw[bm a'.eval w' (.func g) q hq,Oper.upon_defer,NH];show cb.wp P _ _ _;have jg:xV (a_ os):=PD (λo ho=>by
       have:=List.all_eq_true.1 YL.2 o ho;exact aV this)
      have YB:m<=os.length:=by
       rcases od os.length m with h |h
       ·have h1:=abj (E.c id) m s1 os.length h;have h2:(mM (E.c id) m s1).length=os.length:=by rw[NO];simp[gK,kB]
        rw[kY ab]at h1;cases h1
       ·exact h
      have rb:bA E Z n lo ⟨true,[{target:=.fn (.func g) q,args:= #[]}]⟩ (dx (E.c id) vs os) (eV β' (mM (E.c id) m s1)) {a' with defers:={target:=.fn (.func g) q,args:= #[]}::a'.defers} w':=
       ⟨rc.f,rc.m,rc.p,by rw[vy];exact gg.I (λd hd D=>by simp only[EA]at hd;subst hd;simp)⟩
      have aK4:mh os.length w'.heap.size (λh b w2=>K h b w2/\dZ os.length (a_ os) (eV β' (mM (E.c id) m s1)) w' h b w2):=hK.D (dZ.U jg) YB (hK.e hw');have h5:=nF hT hC hI cb _ Fence.wide 0 os.length _ _ (.inl rfl) aK4 (eb dT (hK.e hw')) _ y _ _ _ hc.2 (λh=>by rcases h with h |h;exact absurd rfl h;cases h) (hl _).2 e3 rb (sy _ _ _) ⟨NP,dZ.D⟩;rw[zo]at h5;refine wp_mono h5 (λe a2 w2 hp=> ?_);obtain⟨β2,r2,qQ,⟨gU,wk2⟩,cL⟩:=hp;exact⟨q,β2,r2,qQ,gU,cL,aby wk2.u YL.1 Iq⟩
     ·have hd':=abv hc.1;refine JB hT hC hd' (List.range k) s β a w (.a s1) r M' (λj hj i hi=>hf i (by unfold gN at hi;omega)) e1 ⟨λs' β' a' w' hx r' st' d' n'=> ?_,λv s' β' a' w' y hx=>by cases hx⟩;injection hx with hx;subst hx;exact⟨β',rfl,r',hK.d hw st'⟩
    ·simp[af.D]at e2
   ·simp[af.D]at e2
 |skip=>intro s x β a w hc hl he;exact plain .skip s x β a w hc hl he
 |region id ops draw=>intro s x β a w hc hl he;exact plain (.region id ops draw) s x β a w hc hl he
 |cond cn ca cb=>intro s x β a w hc hl he;exact plain (.cond cn ca cb) s x β a w hc hl he
 |block id cb=>intro s x β a w hc hl he;exact plain (.block id cb) s x β a w hc hl he
 |loop cb=>intro s x β a w hc hl he;exact plain (.loop cb) s x β a w hc hl he
 |scope cb=>intro s x β a w hc hl he;exact plain (.scope cb) s x β a w hc hl he
 |rangeFunc g ps ca cb=>intro s x β a w hc hl he;exact plain (.rangeFunc g ps ca cb) s x β a w hc hl he
 |exit id=>intro s x β a w hc hl he;exact plain (.exit id) s x β a w hc hl he
 |label l=>intro s x β a w hc hl he;exact plain (.label l) s x β a w hc hl he
 |goto l=>intro s x β a w hc hl he;exact plain (.goto l) s x β a w hc hl he
 |ret=>intro s x β a w hc hl he;exact plain .ret s x β a w hc hl he
 |refuse r=>intro s x β a w hc hl he;exact plain (.refuse r) s x β a w hc hl he
def anu{mode:FuncId->List Bool}{dyn:Nat->Bool}{n:Nat}(hk:k<=n):∀(c:Code),ue mode dyn k c=true->ue mode dyn n c=true:=by
 have plain:∀c,(dI mode dyn k c &&jG c)=true->(dI mode dyn n c &&jG c)=true:=λc h=>by rw[au]at*;exact⟨oD hk c h.1,h.2⟩
 intro c;induction c with
 |seq a b _ ihb=>
  intro h;rw[ue]at h⊢;split
  ·rename_i id ops t hd;rw[hd]at h;simp only[au]at*;refine⟨?_,oD hk b h.2⟩;have h2:=h.1;unfold abx at*;rw[dS]at*;intro o ho;have h1:=h2 o ho;split
   ·rename_i d hd;rw[hd]at h1;exact Ey (eb (ft h1) hk)
   ·rfl
  ·rename_i hd;rw[hd]at h;simp only[au]at*;exact⟨⟨oD hk a h.1.1,h.1.2⟩,ihb h.2⟩
 |skip=>exact plain _
 |region id ops draw=>exact plain _
 |cond cn ca cb=>exact plain _
 |block id cb=>exact plain _
 |loop cb=>exact plain _
 |scope cb=>exact plain _
 |rangeFunc g ps ca cb=>exact plain _
 |exit id=>exact plain _
 |label l=>exact plain _
 |goto l=>exact plain _
 |ret=>exact plain _
 |refuse r=>exact plain _
def abz(hT:cH P E.a)(hC:∀g,ck E.a E.b P g (E.f g))(hI:ud E P){CD:FuncId->Option aa->aq}(Iv:∀g,(∃rv args ao out,(CD g rv args ao).D=some out)->Aa E.a E.b P g (CD g))(hf:P.funcs[f]? =some fn)(gu:(fn.name== "runtime.NumGoroutine")=false)(hb:fn.body=some c)(gI:ue E.e E.g fn.ntmps c=true)
  (own:Bool)(C:aq)(vt:∀args ao out,(C args ao).D=some out->(∀m,kF E m c)/\(qg E CD own fn args ao).D=some out):ck E.a E.b P f C:=by
 intro args ao out cM iL Z β w bk cx cN;obtain⟨vu,bm⟩:=vt args ao out cM;have h1:fn.name≠ "runtime.NumGoroutine" :=by simpa using gu
 refine .inl ⟨by simp[callFunc,hf,h1,hb],callsIn_wide.1 (Nd (n:=0) hf hb trivial ?_)⟩;unfold qg at bm;rw[hb]at bm;simp only at bm;obtain⟨x,e1,e2⟩:=cm bm;have jg:=PD iL;have r0:=abu (E:=E) (lo:=w.heap.size) (k:=fn.ntmps) (b:=false) cx cN;have aK5:ue E.e E.g (bk++Array.replicate (fn.ntmps-bk.size) undef).size c=true:=anu (by simp;omega) c gI;rw[zo];refine wp_mono (ant hT hC hI (dZ.U (m:=ao.length) (β0:=β) (w0:=w) jg) (bj _) c _ x β _ w aK5 vu e1 r0 PC dZ.D) (λe a' w1 hp=> ?_);obtain⟨ex,s1,dv⟩:=x;cases dv with
 |none=>
  obtain⟨β',r1,hf',iM,hx⟩:=hp;have vy:a'.defers=[]:=by obtain⟨_,l,h3,h4,_⟩:=r1.z;rw[h3,h4 rfl];rfl
  simp only at e2;cases ex with
  |b=>
   cases e with
   |normal=>show LeavesInM _ _ _ _ _ _ a'.defers _ _;rw[vy];exact z_ hT jg r1 iM e2
   |_=>exact hx.elim
  |c=>
   cases e with
   |ret=>show LeavesInM _ _ _ _ _ _ a'.defers _ _;rw[vy];exact z_ hT jg r1 iM e2
   |_=>exact hx.elim
  |a i=>simp[af.D]at e2
  |d l=>simp[af.D]at e2
  |e v=>
   simp only[Fi,af.D,Option.some.injEq]at e2;cases e with
   |panic ch=>show LeavesInM _ _ _ _ _ _ a'.defers _ _;rw[vy];obtain⟨k1,y,k2,k3⟩:=hx;have hO:∀b,aY Z (jF s1.a (nB ao.length) (iQ ao.length s1 [])) (eV β' (iQ ao.length s1 [])) b->aY Z s1.a β' b:=su (λb hb=>.inl hb);refine⟨_,_,_,y,e2.symm,k1,k2,r1.f.U (CA _ _) (λb hb=>.inl hb) r1.f.m (λi _ mi=>r1.f.f i mi),iM.V jg (λi hi=>Fx _ _ _ hi) (λi g hi h=>JF i g hi h),?_⟩;exact ax.D (cz.D hO) _ _ _ _ (λ_ _ h=>h) (ax.I v _ _ y (λ_ _ _ h=>h.elim) k3)
   |_=>exact hx.elim
 |some gc=>
  obtain⟨g,eN⟩:=gc;obtain⟨q,β',r1,hf',iM,hx,Iq⟩:=hp;simp only at e2;cases fZ:ri ex with
  |none=>rw[fZ]at e2;simp[af.D]at e2
  |some rv=>
   rw[fZ]at e2;simp only at e2;obtain⟨rs,e3,e4⟩:=cm e2;obtain⟨_,lD,xD,_,xE,ot⟩:=r1.z;have key:∀u,u≠ .run->PA E.a w1 (λ_=>False) rv u->LeavesInM Fence.wide 0 P fn a'.tmps (kE E.a E.b Z ao β w out) a'.defers u w1:=by
    intro u hu Is;rw[xD];refine x0 hu lD w1 xE (λD hD=>⟨(ot D hD).1,(ot D hD).2.1⟩) (λw' qt=> ?_);have r2:bA E Z (bk++Array.replicate (fn.ntmps-bk.size) undef).size w.heap.size ⟨true,[]⟩ s1 β' {a' with defers:=[]} w':=bA.U ⟨r1.f,r1.m,r1.p,gg.I fR.I⟩ qt aB;have mI:=iM.I qt;have aK6:=aF.qc qt _ _ _ Iq;refine⟨hu,.inr ⟨by simp[Fence.wide],.func g,q,g,q,rfl,?_,λ_ _=>trivial,?_⟩⟩
    all_goals obtain⟨Z',Ic,mG,aK7,β0,g1,g2,g3,g4,fin⟩:=aaY (E:={E with f:=λ_=>CD g rv}) (Z:=Z) (h:=s1.a) (view:=s1.a) (β:=β') (w:=w') hT r2.f (λi=>.inr rfl) (λi h3 h4=>hf' i h3) (g:=g) (args:=eN) (bk:=q) aK6 e3
    all_goals have hD:=Iv g ⟨_,_,_,_,g1⟩
    ·simp[invoke,hD.a]
    ·have aK8:PA E.a w' (aY Z' (a_ mG) β0) rv u:=by
      cases rv with
      |none=>exact Is
      |some v=>
       obtain⟨y,pd,iK⟩:=Is;refine⟨y,pd,ax.V v _ _ ?_ iK⟩;cases ex with
       |e v'=>
        simp only[ri]at fZ;split at fZ
        ·rename_i j5;simp only[Option.some.injEq]at fZ;rw[<-fZ];exact j5
        ·cases fZ
       |b=>simp[ri]at fZ
       |c=>simp[ri]at fZ
       |a i=>simp[ri]at fZ
       |d l=>simp[ri]at fZ
     refine(hD.b rv Ic mG aK7 g1 g2 Z' β0 w' q u g3 g4 aK8).mono (λe2 u' w2 he=> ?_);obtain⟨⟨y,rfl⟩,jd,aK9⟩:=he;obtain⟨v2,u2,β2,kz,f_⟩:=fin _ _ aK9;subst kz;simp only at e4;show LeavesInM _ _ _ _ _ _ [] (settle u') w2;rw[jd];have r3:bA E Z (bk++Array.replicate (fn.ntmps-bk.size) undef).size w.heap.size ⟨true,[]⟩ {s1 with a:=bU s1.a u2,c:=s1.c+64} β2 {a' with defers:=[]} w2:=
      ⟨f_.b,λt=>f_.a.V r2.f (r2.m t),r2.p,gg.I fR.I⟩
     exact z_ (a:={a' with defers:=[]}) hT jg r3 (mI.Jv f_.a.U) e4
   cases ex with
   |b=>
    simp only[ri,Option.some.injEq]at fZ;subst fZ;cases e with
    |normal=>exact key .returning aB rfl
    |_=>exact hx.elim
   |c=>
    simp only[ri,Option.some.injEq]at fZ;subst fZ;cases e with
    |ret=>exact key .returning aB rfl
    |_=>exact hx.elim
   |e v=>
    simp only[ri]at fZ;split at fZ
    ·rename_i j5;simp only[Option.some.injEq]at fZ;subst fZ;cases e with
     |panic ch=>obtain⟨k1,y,k2,k3⟩:=hx;refine key (.panicking ch) aB ⟨y,by rw[k2],ax.V v _ _ j5 k3⟩
     |_=>exact hx.elim
    ·cases fZ
   |a i=>simp[ri]at fZ
   |d l=>simp[ri]at fZ
end
def lI(l:Nat)(step:List aa->List aj->af (aU×List aa×List aj)):Nat->List aa->List aj->af (aU×List aa×List aj)
 |0,_,_=>.d
 |n+1,vs,os=>(step vs os).U λy=>match y with
  | (.d l',vs',os')=>(match Nat.beq l' l with |true=>lI l step n vs' os' |false=>.d)
  |y=>.g y
def nG(step:List aa->List aj->af (aU×List aa×List aj)):Nat->List aa->List aj->af (aU×List aa×List aj)
 |0,_,_=>.d
 |n+1,vs,os=>(step vs os).U λy=>match y with
  | (.b,vs',os')=>nG step n vs' os'
  |y=>.g y
def sC(step:aa->List aa->List aj->af (aU×List aa×List aj)):List aa->List aa->List aj->af (aU×List aa×List aj)
 | [],vs,os=>.g (.b,vs,os)
 |x::rest,vs,os=>(step x vs os).U λy=>match y with
  | (.b,vs',os')=>sC step rest vs' os'
  |y=>.g y
inductive fT where
 |c (b:Code) |d (ps:List Nat) (assign body:Code) |e (l:Nat) (rest:Code)
variable{ls:List fT}
def fT.D:fT->Nat
 | .c b=>cF b | .d _ a _=>cF a | .e l rest=>kD l rest
def FI(c:Code):List Nat->List fT
 | []=> []
 |l::r=>(match findLabel c l with |some rest=>.e l rest::FI c r |none=>FI c r)
def dj:Code->List fT
 | .seq a b=>dj a++dj b
 | .cond _ a b=>dj a++dj b
 | .block _ b=>dj b
 | .loop b=>.c b::dj b
 | .scope b=>FI b (CI b)++dj b
 | .rangeFunc _ ps a b=>.d ps.toList a b::(dj a++dj b)
 |_=> []
def sD(key:Nat):List fT->Option fT
 | []=>none
 |b::r=>(match Nat.beq b.D key with |true=>some b |false=>sD key r)
structure dQ where
 a:Func
 b:Bool
 f:Nat->List Nat
 g:Nat->List Nat
 e:Nat->Bool:=λ_=>false
 c:Nat:=0
def dQ.D(d:dQ):Code:=d.a.body.getD .skip
structure eH where
 a:TypeId->bz
 b:Nat->aa
 d:FuncId->List Bool
 e:FuncId->List aa->af (List aa)
 c:FuncId->Option dQ
 f:FuncId->Option aq
variable{g:eH}
def kG(E:bD)(fuel:Nat)(ls:List fT)(m key:Nat)(vs:List aa)(os:List aj):af (aU×List aa×List aj):=
 match sD key ls with
 |some (.c b)=>nG (cB E m key b) fuel vs os
 |some (.e l rest)=>lI l (mN E m key rest) fuel vs os
 |some (.d ps a b)=>(match vs with
  | .q items::vs'=>sC (oA E m ps a b) items vs' os
  |_=>.d)
 |none=>.d
def cG(g:eH)(C:FuncId->aq)(d:dQ)(fuel:Nat):Nat->bD
 |0=>{a:=g.a,f:=C,d:=λ_ _ _ _=>.d,e:=g.d,b:=g.b,c:=d.f,h:=d.g,i:=g.e,g:=d.e}
 |k+1=>{a:=g.a,f:=C,d:=kG (cG g C d fuel k) fuel (dj d.D),e:=g.d,b:=g.b,c:=d.f,h:=d.g,i:=g.e,g:=d.e}
def Ab(g:eH)(C:FuncId->aq)(fuel:Nat)(f:FuncId)(rv:Option aa):aq:=match g.c f with
 |some d=>(match d.c with
  |2=>λargs ao=>FG (cG g C d fuel 8) d.a rv args ao
  |_=>λ_ _=>.d)
 |none=>λ_ _=>.d
def ya(g:eH)(C:FuncId->aq)(fuel:Nat)(d:dQ):aq:=match d.c with
 |0=>λargs ao=>aI (cG g C d fuel 8) d.b d.a args ao
 |1=>λargs ao=>qg (cG g C d fuel 8) (Ab g C fuel) d.b d.a args ao
 |_=>λ_ _=>.d
def sE(g:eH)(fuel:Nat):Nat->FuncId->aq
 |0,f=>(match g.f f with |some M=>M |none=>λ_ _=>.d)
 |n+1,f=>(match g.f f with
  |some M=>M
  |none=>(match g.c f with
   |some d=>ya g (sE g fuel n) fuel d
   |none=>λ_ _=>.d))
structure yb(E E':bD):Prop where
 a:∃L',E'={E with d:=L'}
 b:∀m key vs os r,(E.d m key vs os).D=some r->(E'.d m key vs os).D=some r
section
variable{E E':bD}
def eO{α β:Type}{t:af α}{f:α->af β}{a:α}{b:β}(h1:t.D=some a)(h2:(f a).D=some b):(t.U f).D=some b:=by
 induction t with
 |g x=>simp[af.D]at h1;subst h1;exact h2
 |c c t e iht ihe=>
  cases c with
  |true=>exact iht h1
  |false=>exact ihe h1
 |d=>simp[af.D]at h1
def anv(draw:Bool)(hd:iP)(ops:List Oper)(base:Nat)(s:bu)(j:Nat):nD {E with d:=L'} draw hd ops base s j=nD E draw hd ops base s j:=rfl
def FJ{L':dk}(draw:Bool)(hd:iP)(ops:List Oper)(base:Nat):∀(l:List Nat)(s:bu),c8 {E with d:=L'} draw hd ops base l s=c8 E draw hd ops base l s
 | [],s=>rfl
 |j::r,s=>by
  unfold c8;rw[anv];congr 1
  funext x
  cases x with
  |a s'=>exact FJ draw hd ops base r s'
  |b v s'=>rfl
def anw(hd:iP)(ops:List Oper)(base:Nat)(s:bu):vQ {E with d:=L'} hd ops base s=vQ E hd ops base s:=by
 unfold vQ;cases I' ops with
 |none=>rfl
 |some j=>
  simp only;cases ops[j]? with
  |none=>rfl
  |some o=>
   simp only;rw[FJ];congr 1
   funext x
   cases x with
   |b v s'=>rfl
   |a sN=>
    simp only;have h:vP {E with d:=L'} hd ops base j o sN=vP E hd ops base j o sN:=by rfl
    rw[h];congr 1
    funext y
    cases y with
    |b v s'=>rfl
    |a s1=>exact FJ true hd ops base _ s
def abA(m id:Nat)(ops:Array Oper)(draw:Bool)(s:bu):cy {E with d:=L'} m (.region id ops draw) s=cy E m (.region id ops draw) s:=by unfold cy;rw[FJ,anw];rfl
def rj(h:yb E E'):∀(c:Code)(m:Nat)(s:bu)(x:aU×bu),(cy E m c s).D=some x->(cy E' m c s).D=some x
 | .skip,m,s,x,he=>he
 | .label l,m,s,x,he=>he
 | .exit id,m,s,x,he=>he
 | .ret,m,s,x,he=>he
 | .goto l,m,s,x,he=>he
 | .refuse l,m,s,x,he=>by simp[cy,af.D]at he
 | .scope c,m,s,x,he=>by
  rw[cy]at he⊢;obtain⟨y,h1,h2⟩:=cm he;refine eO (rj h c m s y h1) ?_;obtain⟨ex,s1⟩:=y;cases ex with
  |d l=>
   simp only at h2⊢;split at h2
   ·obtain⟨z,h3,h4⟩:=cm h2;have h5:=h.b _ _ _ _ _ h3;obtain⟨L',rfl⟩:=h.a;exact eO h5 h4
   ·simp[af.D]at h2
  |_=>exact h2
 | .region id ops draw,m,s,x,he=>by obtain⟨L',rfl⟩:=h.a;rw[abA];exact he
 | .seq a b,m,s,x,he=>by
  rw[cy]at he⊢;obtain⟨y,h1,h2⟩:=cm he;refine eO (rj h a m s y h1) ?_;obtain⟨ex,s1⟩:=y;cases ex with
  |b=>exact rj h b m s1 x h2
  |_=>exact h2
 | .cond c a b,m,s,x,he=>by
  have jN:aN E' s.b c=aN E s.b c:=by obtain⟨L',rfl⟩:=h.a;rfl
  cases c with
  |tmp t=>
   simp only[cy]at he⊢;rw[jN];split at he
   ·rename_i v hv;cases v with
    |true=>exact rj h a m _ x he
    |false=>exact rj h b m _ x he
   ·simp[af.D]at he
  |_=>
   simp only[cy]at he⊢;rw[jN];split at he
   ·rename_i v hv;cases v with
    |true=>exact rj h a m _ x he
    |false=>exact rj h b m _ x he
   ·simp[af.D]at he
 | .block id c,m,s,x,he=>by rw[cy]at he⊢;obtain⟨y,h1,h2⟩:=cm he;exact eO (rj h c m s y h1) h2
 | .loop b,m,s,x,he=>by rw[cy]at he⊢;obtain⟨y,h1,h2⟩:=cm he;have h3:=h.b _ _ _ _ _ h1;obtain⟨L',rfl⟩:=h.a;exact eO h3 h2
 | .rangeFunc g ps a b,m,s,x,he=>by
  have jN:aN E' s.b g=aN E s.b g:=by obtain⟨L',rfl⟩:=h.a;rfl
  have jP:E'.i=E.i:=by obtain⟨L',rfl⟩:=h.a;rfl
  have xF:E'.c=E.c:=by obtain⟨L',rfl⟩:=h.a;rfl
  rw[cy]at he⊢;rw[jN,jP,xF];split at he
  ·split at he
   ·obtain⟨items,hi,he⟩:=cm he;obtain⟨y,h1,h2⟩:=cm he;exact eO hi (eO (h.b _ _ _ _ _ h1) h2)
   ·simp[af.D]at he
  ·simp[af.D]at he
def CL(h:yb E E')(he:(cB E m key b vs os).D=some y):(cB E' m key b vs os).D=some y:=by
 have xF:E'.c=E.c/\E'.h=E.h:=by obtain⟨L',rfl⟩:=h.a;exact⟨rfl,rfl⟩
 unfold cB at*;rw[xF.1,xF.2];obtain⟨x,h1,h2⟩:=cm he;exact eO (rj h _ _ _ _ h1) h2
def CM(h:yb E E')(he:(mN E m key b vs os).D=some y):(mN E' m key b vs os).D=some y:=by
 have xF:E'.c=E.c/\E'.h=E.h:=by obtain⟨L',rfl⟩:=h.a;exact⟨rfl,rfl⟩
 unfold mN at*;rw[xF.1,xF.2];obtain⟨x,h1,h2⟩:=cm he;exact eO (rj h _ _ _ _ h1) h2
def CN(h:yb E E'){x:aa}(he:(oA E m ps a b x vs os).D=some y):(oA E' m ps a b x vs os).D=some y:=by
 have xF:E'.c=E.c:=by obtain⟨L',rfl⟩:=h.a;rfl
 unfold oA at*;rw[xF];split at he
 ·split at he
  ·rename_i hc;obtain⟨⟨e1,s1⟩,h1,h2⟩:=cm he;refine eO (rj h _ _ _ _ h1) ?_;cases e1 with
   |b=>obtain⟨x2,h3,h4⟩:=cm h2;exact eO (rj h _ _ _ _ h3) h4
   |_=>exact h2
  ·simp[af.D]at he
 ·simp[af.D]at he
def CO{step vz:List aa->List aj->af (aU×List aa×List aj)}(hs:∀vs os y,(step vs os).D=some y->(vz vs os).D=some y):∀(n n':Nat)(vs:List aa)(os:List aj)(r:aU×List aa×List aj),n<=n'->(nG step n vs os).D=some r->(nG vz n' vs os).D=some r
 |0,n',vs,os,r,_,h=>by simp[nG,af.D]at h
 |n+1,0,vs,os,r,hn,h=>ab
 |n+1,n'+1,vs,os,r,hn,h=>by
  rw[nG]at h⊢;obtain⟨⟨e,vs',os'⟩,h1,h2⟩:=cm h;refine eO (hs _ _ _ h1) ?_;cases e with
  |b=>exact CO hs n n' vs' os' r ab h2
  |_=>exact h2
def CP{l:Nat}{step vz:List aa->List aj->af (aU×List aa×List aj)}(hs:∀vs os y,(step vs os).D=some y->(vz vs os).D=some y):∀(n n':Nat)(vs:List aa)(os:List aj)(r:aU×List aa×List aj),n<=n'->(lI l step n vs os).D=some r->(lI l vz n' vs os).D=some r
 |0,n',vs,os,r,_,h=>by simp[lI,af.D]at h
 |n+1,0,vs,os,r,hn,h=>ab
 |n+1,n'+1,vs,os,r,hn,h=>by
  rw[lI]at h⊢;obtain⟨⟨e,vs',os'⟩,h1,h2⟩:=cm h;refine eO (hs _ _ _ h1) ?_;cases e with
  |d l'=>
   simp only at h2⊢;split at h2
   ·exact CP hs n n' vs' os' r ab h2
   ·simp[af.D]at h2
  |_=>exact h2
def abB{l:Nat}{step:List aa->List aj->af (aU×List aa×List aj)}:∀(n:Nat)(vs:List aa)(os:List aj)(r:aU×List aa×List aj),(lI l step n vs os).D=some r->∀l',r.1≠ .d l'
 |0,vs,os,r,h=>by simp[lI,af.D]at h
 |n+1,vs,os,r,h=>by
  rw[lI]at h;obtain⟨⟨e,vs',os'⟩,h1,h2⟩:=cm h;cases e with
  |d l'=>
   simp only at h2;split at h2
   ·exact abB n vs' os' r h2
   ·simp[af.D]at h2
  |_=>simp only[af.D,Option.some.injEq]at h2;rw[<-h2];simp
def JL{step vz:aa->List aa->List aj->af (aU×List aa×List aj)}(hs:∀x vs os y,(step x vs os).D=some y->(vz x vs os).D=some y):∀(items:List aa)(vs:List aa)(os:List aj)(r:aU×List aa×List aj),(sC step items vs os).D=some r->(sC vz items vs os).D=some r
 | [],vs,os,r,h=>h
 |x::rest,vs,os,r,h=>by
  rw[sC]at h⊢;obtain⟨⟨e,vs',os'⟩,h1,h2⟩:=cm h;refine eO (hs _ _ _ _ h1) ?_;cases e with
  |b=>exact JL hs rest vs' os' r h2
  |_=>exact h2
def anx(h:yb E E')(he:(kG E fuel ls m key vs os).D=some r):(kG E' fuel ls m key vs os).D=some r:=by
 unfold kG at*;split at he
 ·exact CO (λ_ _ _=>CL h) _ _ _ _ _ (bj _) he
 ·exact CP (λ_ _ _=>CM h) _ _ _ _ _ (bj _) he
 ·split at he
  ·exact JL (λ_ _ _ _=>CN h) _ _ _ _ he
  ·simp[af.D]at he
 ·simp[af.D]at he
end
def JM(g:eH)(C:FuncId->aq)(d:dQ)(fuel:Nat):∀k,yb (cG g C d fuel k) (cG g C d fuel (k+1))
 |0=>⟨⟨_,rfl⟩,λm key vs os r h=>by simp[cG,af.D]at h⟩
 |k+1=>⟨⟨_,rfl⟩,λm key vs os r h=>anx (JM g C d fuel k) h⟩
def yc:∀(l:List fT)(b:fT),(l.map fT.D).Nodup->b∈l->sD b.D l=some b
 |x::r,b,hn,hb=>by
  rw[lX,tB]at hn;unfold sD;rcases List.mem_cons.1 hb with rfl |hb
  ·rw[gq]
  ·have bL:Nat.beq x.D b.D=false:=by
    cases hq:Nat.beq x.D b.D with
    |false=>rfl
    |true=>exact absurd (List.mem_map.2 ⟨b,hb,(aV hq).symm⟩) hn.1
   rw[bL];exact yc r b hn.2 hb
section
variable{g:eH}{C:FuncId->aq}{d:dQ}{fuel k:Nat}
def anz(hk:((dj d.D).map fT.D).Nodup)(hb:fT.c b∈dj d.D)(m:Nat):abk (cG g C d fuel (k+1)) m b:=by
 classical
 obtain⟨st,bg⟩:∃st,st=cB (cG g C d fuel k) m (cF b) b:=⟨_,rfl⟩
 have hL:∀vs os,(cG g C d fuel (k+1)).d m (cF b) vs os=nG st fuel vs os:=λvs os=>by show kG (cG g C d fuel k) fuel (dj d.D) m (cF b) vs os=_;unfold kG;have:=yc _ _ hk hb;rw[show sD (cF b) (dj d.D)=some (.c b)from this,bg]
 refine⟨λvs os=>if h:∃n,∃r,(nG st n vs os).D=some r then(ub h).choose else 0,λvs os r hr=> ?_⟩;rw[hL]at hr;have hex:∃n,∃r,(nG st n vs os).D=some r:=⟨fuel,r,hr⟩
 obtain⟨⟨r',h1⟩,h2⟩:=(ub hex).choose_spec;have hle:=h2 fuel ⟨r,hr⟩;obtain⟨N,hN⟩:∃N,N=(ub hex).choose:=⟨_,rfl⟩
 rw[<-hN]at h1 h2 hle;have rY:r'=r:=by have:=CO (vz:=st) (λ_ _ _ h=>h) N fuel vs os r' hle h1;rw[hr]at this;injection this with this;exact this.symm
 subst rY;cases N with
 |zero=>simp[nG,af.D]at h1
 |succ n0=>
  rw[nG]at h1;obtain⟨⟨e,vs',os'⟩,h3,h4⟩:=cm h1;refine⟨(e,vs',os'),CL (JM g C d fuel k) (bg▸h3),?_⟩;cases e with
  |b=>
   have h5:(nG st n0 vs' os').D=some r':=h4;have Iw:∃n,∃r,(nG st n vs' os').D=some r:=⟨n0,r',h5⟩
   have h6:=(ub Iw).choose_spec.2 n0 ⟨r',h5⟩;refine⟨?_,?_⟩
   ·show(if h:_ then _ else _)<(if h:_ then _ else _);rw[dif_pos Iw,dif_pos hex,<-hN];omega
   ·rw[hL];exact CO (λ_ _ _ h=>h) _ _ _ _ _ ab h5
  |_=>simp only[af.D,Option.some.injEq]at h4;exact h4
def anA(hk:((dj d.D).map fT.D).Nodup)(hb:fT.e l b∈dj d.D)(m:Nat):abm (cG g C d fuel (k+1)) m l b:=by
 classical
 obtain⟨st,bg⟩:∃st,st=mN (cG g C d fuel k) m (kD l b) b:=⟨_,rfl⟩
 have hL:∀vs os,(cG g C d fuel (k+1)).d m (kD l b) vs os=lI l st fuel vs os:=λvs os=>by show kG (cG g C d fuel k) fuel (dj d.D) m (kD l b) vs os=_;unfold kG;have:=yc _ _ hk hb;rw[show sD (kD l b) (dj d.D)=some (.e l b)from this,bg]
 refine⟨λvs os=>if h:∃n,∃r,(lI l st n vs os).D=some r then(ub h).choose else 0,λvs os r hr=> ?_⟩;rw[hL]at hr;refine⟨abB _ _ _ _ hr,?_⟩;have hex:∃n,∃r,(lI l st n vs os).D=some r:=⟨fuel,r,hr⟩
 obtain⟨⟨r',h1⟩,h2⟩:=(ub hex).choose_spec;have hle:=h2 fuel ⟨r,hr⟩;obtain⟨N,hN⟩:∃N,N=(ub hex).choose:=⟨_,rfl⟩
 rw[<-hN]at h1 h2 hle;have rY:r'=r:=by have:=CP (vz:=st) (λ_ _ _ h=>h) N fuel vs os r' hle h1;rw[hr]at this;injection this with this;exact this.symm
 subst rY;cases N with
 |zero=>simp[lI,af.D]at h1
 |succ n0=>
  rw[lI]at h1;obtain⟨⟨e,vs',os'⟩,h3,h4⟩:=cm h1;refine⟨(e,vs',os'),CM (JM g C d fuel k) (bg▸h3),?_⟩;cases e with
  |d l'=>
   simp only at h4;split at h4
   ·rename_i eT;have h5:(lI l st n0 vs' os').D=some r':=h4;have Iw:∃n,∃r,(lI l st n vs' os').D=some r:=⟨n0,r',h5⟩
    have h6:=(ub Iw).choose_spec.2 n0 ⟨r',h5⟩;refine⟨aV eT,?_,?_⟩
    ·show(if h:_ then _ else _)<(if h:_ then _ else _);rw[dif_pos Iw,dif_pos hex,<-hN];omega
    ·rw[hL];exact CP (λ_ _ _ h=>h) _ _ _ _ _ ab h5
   ·simp[af.D]at h4
  |_=>simp only[af.D,Option.some.injEq]at h4;exact h4
def PF{c rest:Code}{l:Nat}(h:findLabel c l=some rest):∀(ls:List Nat),l∈ls->fT.e l rest∈FI c ls
 | [],hl=>by cases hl
 |l'::r,hl=>by
  unfold FI;rcases List.mem_cons.1 hl with rfl |hl
  ·rw[h];simp
  ·split
   ·exact oX _ (PF h r hl)
   ·exact PF h r hl
def anB(hk:((dj d.D).map fT.D).Nodup)(hb:fT.d ps a b∈dj d.D)(m:Nat):abl (cG g C d fuel (k+1)) m ps a b:=by
 have hL:∀items vs os,(cG g C d fuel (k+1)).d m (cF a) (.q items::vs) os=sC (oA (cG g C d fuel k) m ps a b) items vs os:=λitems vs os=>by show kG (cG g C d fuel k) fuel (dj d.D) m (cF a) _ os=_;unfold kG;have:=yc _ _ hk hb;rw[show sD (cF a) (dj d.D)=some (.d ps a b)from this]
 intro items vs os r hr;rw[hL]at hr;cases items with
 |nil=>simp only[sC,af.D,Option.some.injEq]at hr;exact hr.symm
 |cons x rest=>
  rw[sC]at hr;obtain⟨⟨e,vs',os'⟩,h3,h4⟩:=cm hr;refine⟨(e,vs',os'),CN (JM g C d fuel k) h3,?_⟩;cases e with
  |b=>show((cG g C d fuel (k+1)).d m (cF a) (.q rest::vs') os').D=some r;rw[hL];exact h4
  |_=>simp only[af.D,Option.some.injEq]at h4;exact h4
def oE(hk:((dj d.D).map fT.D).Nodup):∀(c:Code)(m:Nat),(∀b∈dj c,b∈dj d.D)->kF (cG g C d fuel (k+1)) m c
 | .seq a b,m,h=>⟨oE hk a m (λx hx=>h x (List.mem_append.2 (.inl hx))),oE hk b m (λx hx=>h x (List.mem_append.2 (.inr hx)))⟩
 | .cond _ a b,m,h=>⟨oE hk a m (λx hx=>h x (List.mem_append.2 (.inl hx))),oE hk b m (λx hx=>h x (List.mem_append.2 (.inr hx)))⟩
 | .block _ b,m,h=>oE hk b m h
 | .loop b,m,h=>⟨anz hk (h _ (by simp[dj])) m,oE hk b m (λx hx=>h x (by simp[dj,hx]))⟩
 | .scope b,m,h=>⟨oE hk b m (λx hx=>h x (List.mem_append.2 (.inr hx))),λl rest hl=>anA hk (h _ (List.mem_append.2 (.inl (PF hl _ (Py hl))))) m⟩
 | .rangeFunc _ ps a b,m,h=>⟨anB hk (h _ (by simp[dj])) m,λm'=>⟨oE hk a m' (λx hx=>h x (by simp[dj,hx])),oE hk b m' (λx hx=>h x (by simp[dj,hx]))⟩⟩
 | .skip,_,_=>trivial
 | .region _ _ _,_,_=>trivial
 | .exit _,_,_=>trivial
 | .label _,_,_=>trivial
 | .goto _,_,_=>trivial
 | .ret,_,_=>trivial
 | .refuse _,_,_=>trivial
end
structure iB(P:Program)(g:eH)(f:FuncId)(d:dQ):Prop where
 c:P.funcs[f]? =some d.a
 b:(d.a.name== "runtime.NumGoroutine")=false
 h:d.a.body.isSome=true
 e:(match d.c with |0=>dI g.d d.e d.a.ntmps d.D |1=>ue g.d d.e d.a.ntmps d.D |_=>JJ g.d d.e d.a.ntmps d.D)=true
 a:((dj d.D).map fT.D).Nodup
def anC(o:Option (List aa)):af (List aa):=match o with |some l=>.g l |none=>.d
def sF(P:Program)(g:eH):Prop:=∀C,(∀f,ck g.a g.b P f (C f))->∀d fuel k,ud (cG g C d fuel k) P
def anD(hT:cH P g.a)(hC:∀f,ck g.a g.b P f (C f))(B_:∀f d,g.c f=some d->iB P g f d)(hI:sF P g)(fuel:Nat)(f:FuncId)(hx:∃rv args ao out,(Ab g C fuel f rv args ao).D=some out):Aa g.a g.b P f (Ab g C fuel f):=by
 obtain⟨rv,args,ao,out,he⟩:=hx;unfold Ab at he;cases hd:g.c f with
 |none=>rw[hd]at he;simp[af.D]at he
 |some d=>
  rw[hd]at he;simp only at he;have ok:=B_ f d hd;obtain⟨c,hc⟩:=Option.isSome_iff_exists.1 ok.h;have ou:d.D=c:=by unfold dQ.D;rw[hc];rfl
  have gI:=ok.e;have fin:d.c=2->Aa g.a g.b P f (Ab g C fuel f):=λhk=>by rw[hk]at gI;simp only at gI;rw[ou]at gI;refine abw (E:=cG g C d fuel 8) hT hC (hI _ hC d fuel 8) ok.c ok.b hc gI _ (λrv args ao out h=>⟨oE ok.a c ao.length (λb hb=>ou▸hb),?_⟩);unfold Ab at h;rw[hd]at h;simp only[hk]at h;exact h
  rcases hk:d.c with _ |_ |_ |k
  ·rw[hk]at he;simp[af.D]at he
  ·rw[hk]at he;simp[af.D]at he
  ·exact fin hk
  ·rw[hk]at he;simp[af.D]at he
def anE(hT:cH P g.a)(hC:∀f,ck g.a g.b P f (C f))(B_:∀f d,g.c f=some d->iB P g f d)(hI:sF P g)(fuel:Nat){d:dQ}(ok:iB P g f d):ck g.a g.b P f (ya g C fuel d):=by
 obtain⟨c,hc⟩:=Option.isSome_iff_exists.1 ok.h;have ou:d.D=c:=by unfold dQ.D;rw[hc];rfl
 have gI:=ok.e;rcases hk:d.c with _ |_ |k
 ·have e:ya g C fuel d=λargs ao=>aI (cG g C d fuel 8) d.b d.a args ao:=by unfold ya;rw[hk];rfl
  rw[e];rw[hk]at gI;exact abr (E:=cG g C d fuel 8) hT hC (hI _ hC d fuel 8) ok.c ok.b hc (ou▸gI) d.b _ (λargs ao out h=>⟨oE ok.a c ao.length (λb hb=>ou▸hb),h⟩)
 ·have e:ya g C fuel d=λargs ao=>qg (cG g C d fuel 8) (Ab g C fuel) d.b d.a args ao:=by unfold ya;rw[hk];rfl
  rw[e];rw[hk]at gI;exact abz (E:=cG g C d fuel 8) hT hC (hI _ hC d fuel 8) (anD hT hC B_ hI fuel) ok.c ok.b hc (ou▸gI) d.b _ (λargs ao out h=>⟨λm=>oE ok.a c m (λb hb=>ou▸hb),h⟩)
 ·have e:ya g C fuel d=λ_ _=>.d:=by unfold ya;rw[hk];rfl
  rw[e];intro args ao out h;simp[af.D]at h
def abC{P:Program}{g:eH}(hT:cH P g.a)(YM:∀f M,g.f f=some M->ck g.a g.b P f M)(B_:∀f d,g.c f=some d->iB P g f d)(hI:sF P g)(fuel:Nat):
  ∀(n:Nat)(f:FuncId),ck g.a g.b P f (sE g fuel n f)
 |0,f=>by
  unfold sE;split
  ·exact YM f _ ‹_›
  ·intro args ao out h;simp[af.D]at h
 |n+1,f=>by
  unfold sE;split
  ·exact YM f _ ‹_›
  ·split
   ·rename_i d hd;exact anE hT (λf=>abC hT YM B_ hI fuel n f) B_ hI fuel (B_ f d hd)
   ·intro args ao out h;simp[af.D]at h
def JN:List Nat->Bool
 | []=>true
 |x::r=> !r.contains x &&JN r
def abD:∀{l:List Nat},JN l=true->l.Nodup
 | [],_=>Ew
 |x::r,h=>by rw[JN,au]at h;exact List.nodup_cons.2 ⟨by simpa using h.1,abD h.2⟩
def abE(g:eH)(d:dQ):Bool:=
 !(d.a.name== "runtime.NumGoroutine") &&d.a.body.isSome && (match d.c with |0=>dI g.d d.e d.a.ntmps d.D |1=>ue g.d d.e d.a.ntmps d.D |_=>JJ g.d d.e d.a.ntmps d.D) &&JN ((dj d.D).map fT.D)
def ka(c:Nat):List UInt8->Nat->Int
 | [],_=> -1
 |x::r,i=>(match Nat.beq x.toNat c with |true=>(i:Int) |false=>ka c r (i+1))
def vV(c:Nat):List UInt8->Nat->Nat
 | [],n=>n
 |x::r,n=>(match Nat.beq x.toNat c with |true=>vV c r (n+1) |false=>vV c r n)
def rk:aq
 | [.h s,.c .u8 c],[]=>.I (decide (0<=c) &&decide (c<256)) (.g (.a (.c .i64 (ka c.toNat s 0)) []))
 |_,_=>.d
def FK:aq
 | [.h s,.c .u8 c],[]=>.I (decide (0<=c) &&decide (c<256)) (.g (.a (.c .i64 (vV c.toNat s 0)) []))
 |_,_=>.d
def kH(e:TypeId):aq
 | [.d t vs],[]=>(match vs with
  | []=>.g (.a (.d e []) [])
  |_=>(match Nat.beq t e with |true=>.I (decide (vs.length<=eU)) (.g (.a (.y e 0 0 vs.length) [.b false 0 e vs])) |false=>.d))
 | [.w],[]=>.g (.a (.d e []) [])
 |_,_=>.d
def yd(e:TypeId):aq
 | [.d t vs],[]=>(match vs with
  | []=>.g (.a (.d e []) [])
  |_=>(match Nat.beq t e with |true=>.I (decide (vs.length<=eU)) (.g (.a (.G e 0 vs.length) [.a false (vs.flatMap aa.V)])) |false=>.d))
 | [.w],[]=>.g (.a (.d e []) [])
 |_,_=>.d
section
variable{T:TypeId->bz}{G:Nat->aa}{P:Program}
def abF{c:Int}(h0:0<=c)(h1:c<256):(c.toNat.toUInt8).toNat=c.toNat:=by show c.toNat % 256=c.toNat;omega
def abG{x:UInt8}{c:Int}(h0:0<=c)(h1:c<256):Nat.beq x.toNat c.toNat=(x==c.toNat.toUInt8):=by
 rw[Bool.eq_iff_iff];constructor
 ·intro h;have h2:=aV h;rw[qM];apply UInt8.toNat.inj;rw[abF h0 h1];exact h2
 ·intro h;rw[qM]at h;rw[h,abF h0 h1];exact gq _
def abH{c:Int}(h0:0<=c)(h1:c<256):∀(l:List UInt8)(i:Nat),ka c.toNat l i=if Lib.indexByte l c.toNat.toUInt8= -1 then-1 else Lib.indexByte l c.toNat.toUInt8+i
 | [],i=>rfl
 |x::r,i=>by
  rw[ka,Lib.indexByte,abG h0 h1];have BP:=Lib.indexByte_ge r c.toNat.toUInt8;cases hx:(x==c.toNat.toUInt8)with
  |true=>simp
  |false=>
   simp only[xi,xj];rw[abH h0 h1 r (i+1)];by_cases hm:Lib.indexByte r c.toNat.toUInt8= -1
   ·simp[hm]
   ·have hb:(Lib.indexByte r c.toNat.toUInt8== -1)=false:=by simpa using hm
    rw[if_neg hm,hb];simp only[xi,xj];rw[if_neg ab];omega
def PG{c:Int}(h0:0<=c)(h1:c<256):∀(l:List UInt8)(n:Nat),vV c.toNat l n=n+Lib.countByte l c.toNat.toUInt8
 | [],n=>rfl
 |x::r,n=>by
  rw[vV,abG h0 h1];have hc:Lib.countByte (x::r) c.toNat.toUInt8=Lib.countByte r c.toNat.toUInt8+(if(x==c.toNat.toUInt8)=true then 1 else 0):=by simp[Lib.countByte,List.count_cons]
  rw[hc];cases hx:(x==c.toNat.toUInt8)with
  |true=>simp only[if_true];rw[PG h0 h1 r (n+1)];omega
  |false=>simp only[xi,xj];rw[PG h0 h1 r n];omega
def abI(hf:P.funcs[f]? =some fn)(gu:(fn.name== "runtime.NumGoroutine")=false)(hb:fn.body.isNone=true)(hn:Extern.findNext fn=none){e:Array Value->Sem Value}(he:Extern.find fn=some e)
 (hM:∀args ao out,(M args ao).D=some out->ao=[]/\∃v,out=.a v []/\∀(w:World)(O:Nat->Prop)(R:aa->Value->Prop)(bk:Array Value),aF T w O args R bk.toList->∃x,(e bk).run P w=.ok x w/\ax T w O v bh x):ck T G P f M:=by
 intro args ao out cM iL Z β w bk cx cN;obtain⟨rfl,v,rfl,h⟩:=hM args ao out cM;obtain⟨x,h1,h2⟩:=h w _ _ bk cN;refine .inr ⟨x,w,?_,v,[],β,rfl,cx,dZ.D,ax.D (cz.D (λ_ h=>h)) _ _ _ _ (λ_ _ h=>h.elim) h2⟩;rw[run_callFunc_extern hf gu hb hn he,h1];rfl
def anF(hf:P.funcs[f]? =some fn)(gu:(fn.name== "runtime.NumGoroutine")=false)(hb:fn.body.isNone=true)(hn:Extern.findNext fn=none)(he:Extern.find fn=some Extern.BytealgIndexByte.indexByte):ck T G P f rk:=
 abI hf gu hb hn he (λp q u h=>by
  unfold rk at h;split at h
  ·rename_i s c;obtain⟨h1,h2⟩:=aO h;rw[au,bC,bC]at h1;simp only[af.D,Option.some.injEq]at h2;refine⟨rfl,_,h2.symm,λw O R bk hr=> ?_⟩;obtain⟨x,r,e1,⟨b,rfl,hb⟩,y,r2,e2,hy,e3⟩:=hr;have hy':y=.int .u8 c:=hy;subst hy' e3 e2;have:bk= #[.string b,.int .u8 c]:=by obtain⟨l⟩:=bk;simp at e1;rw[e1]
   subst this;refine⟨_,Lib.run_indexByteString b c w,?_⟩;show _=_;rw[hb,abH h1.1 h1.2];split<;>simp_all
  ·simp[af.D]at h)
def anG(hf:P.funcs[f]? =some fn)(gu:(fn.name== "runtime.NumGoroutine")=false)(hb:fn.body.isNone=true)(hn:Extern.findNext fn=none)(he:Extern.find fn=some Extern.BytealgCount.count):ck T G P f FK:=
 abI hf gu hb hn he (λp q u h=>by
  unfold FK at h;split at h
  ·rename_i s c;obtain⟨h1,h2⟩:=aO h;rw[au,bC,bC]at h1;simp only[af.D,Option.some.injEq]at h2;refine⟨rfl,_,h2.symm,λw O R bk hr=> ?_⟩;obtain⟨x,r,e1,⟨b,rfl,hb⟩,y,r2,e2,hy,e3⟩:=hr;have hy':y=.int .u8 c:=hy;subst hy' e3 e2;have:bk= #[.string b,.int .u8 c]:=by obtain⟨l⟩:=bk;simp at e1;rw[e1]
   subst this;refine⟨_,Lib.run_countString b c w,?_⟩;show _=_;rw[hb,PG h1.1 h1.2,gF]
  ·simp[af.D]at h)
end
inductive iR (α:Type) where
 |c
 |g (k:Nat) (a:α) (l r:iR α)
section
variable{α:Type}
def iR.D:iR α->Nat->Option α
 | .c,_=>none
 | .g k a l r,f=>(match Nat.beq f k with |true=>some a |false=>(match Nat.ble f k with |true=>l.D f |false=>r.D f))
def iR.I(p:Nat->α->Prop):iR α->Prop
 | .c=>True
 | .g k a l r=>p k a/\l.I p/\r.I p
def iR.U(p:α->Bool):iR α->Bool
 | .c=>true
 | .g _ a l r=>p a && (l.U p &&r.U p)
def iR.anH(d:α)(t:iR α)(f:Nat):α:=match t.D f with |some a=>a |none=>d
def iR.I.D{p:Nat->α->Prop}:∀{t:iR α},t.I p->∀f a,t.D f=some a->p f a
 | .c,_,f,a,h=>by cases h
 | .g k b l r,hp,f,a,h=>by
  obtain⟨h1,h2,h3⟩:=hp;unfold iR.D at h;split at h
  ·rename_i e;obtain rfl:=iZ e;cases h;exact h1
  ·split at h
   ·exact h2.D f a h
   ·exact h3.D f a h
def iR.V{p:α->Bool}:∀{t:iR α},t.U p=true->∀f a,t.D f=some a->p a=true
 | .c,_,f,a,h=>by cases h
 | .g k b l r,hp,f,a,h=>by
  rw[iR.U,au,au]at hp;obtain⟨h1,h2,h3⟩:=hp;unfold iR.D at h;split at h
  ·cases h;exact h1
  ·split at h
   ·exact iR.V h2 f a h
   ·exact iR.V h3 f a h
end
def PH:List (Nat×List Nat)->Nat->List Nat
 | [],_=> []
 | (i,x)::r,k=>(match Nat.beq k i with |true=>x |false=>PH r k)
def abJ:List Nat->Nat->Bool
 | [],_=>false
 |i::r,k=>(match Nat.beq k i with |true=>true |false=>abJ r k)
def anI{t:iR dQ}(hg:g.c=t.D)(hf:t.I λf d=>P.funcs[f]? =some d.a)(h:t.U (abE g)=true):∀f d,g.c f=some d->iB P g f d:=by intro f d hd;rw[hg]at hd;have h1:=iR.V h f d hd;unfold abE at h1;simp only[au,kr]at h1;obtain⟨⟨⟨a1,a2⟩,a3⟩,a4⟩:=h1;exact⟨hf.D f d hd,a1,a2,a3,abD a4⟩
section
variable{T:TypeId->bz}{G:Nat->aa}{E:bD}{P:Program}{Z Z':Nat->Prop}{n lo:Nat}{d0:fR}{s s':bu}{β:Nat->bd}{w w':World}{a:Act}{ops:Array Oper}{base:Nat}
structure gh(ts:List Nat)(a a':Act):Prop where
 g:a'.tmps.size=a.tmps.size
 f:∀t∈ts,a'.tmps.getD t undef=a.tmps.getD t undef
def gh.U{a:Act}:gh ts a a:=⟨rfl,λ_ _=>rfl⟩
def gh.I{a b c:Act}(h:gh ts a b)(k:gh ts b c):gh ts a c:=⟨k.g.trans h.g,λt ht=>(k.f t ht).trans (h.f t ht)⟩
def nH(ts:List Nat)(o:Oper):Bool:=(match o.dst with |some d=> !ts.contains d |none=>true) && !CF o.op
def gh.D{a:Act}(hf:nH ts o=true)(x:Value):gh ts a (a.put o.dst x):=by
 refine⟨fS _ _ _,λt ht=> ?_⟩;unfold nH at hf;rw[au]at hf;cases hd:o.dst with
 |none=>rfl
 |some d=>
  have h1:=hf.1;rw[hd]at h1;have bL:d≠t:=λe=>by subst e;simp only[kr]at h1;rw[List.contains_iff_mem.2 ht]at h1;cases h1
  show(a.tmps.setIfInBounds d x).getD t undef=_;simp only[fh];rw[EB bL]
def anJ(hf:nH ts o=true){K:Act->World->Prop}(h:o.wp P a w K Q):o.wp P a w (λa' w'=>K a' w'/\gh ts a a') Q:=by
 unfold Oper.wp at*;cases hr:(execOp a.eval o).run P w with
 |ok x w'=>
  rw[hr]at h;cases x with
  |value v=>exact⟨h,gh.D hf _⟩
  |skip=>exact⟨h,gh.D hf _⟩
  |defer d=>have p:=gh.D (a:={a with defers:=d::a.defers}) hf undef;exact⟨h,p.g,p.f⟩
  |enter f args=>exact Nf h (λe w'' he=>by cases e<;>first |exact⟨he,gh.D hf _⟩ |exact he)
  |row r args=>exact Rows.mono h (λ_ _ he=>⟨he,gh.D hf _⟩)
  |_=>exact h.elim
 |halt r w'=>rw[hr]at h;cases r<;>exact h
def anK{l:List Nat}(hT:cH P E.a)(hC:∀g,ck E.a E.b P g (E.f g))(r:bA E Z n lo d0 s β a w)(hd:jU n ops=true)(hj:ops[j]? =some o)(hf:nH ts o=true)
  (de:∀i,base+64*j<=i->i<base+64*j+64->s.a i=.c)(he:(nD E false gb ops.toList base s j).D=some (.a s'))
  (hQ:∀β' a' w',bA E Z n lo d0 s' β' a' w'->dF s.a β w s'.a β' w'->sr s.a s'.a (base+64*j)->gh ts a a'->wpOpsIn Fence.wide k P ops Q l a' w'):wpOpsIn Fence.wide k P ops Q (j::l) a w:=by
 have h1:wpOp P ops (λ_ _ _=>False) j (λa' w'=>∃β',bA E Z n lo d0 s' β' a' w'/\dF s.a β w s'.a β' w'/\sr s.a s'.a (base+64*j)) a w:=
  FC hT hC r (CG hd) de he ⟨λs1 β1 a1 w1 hx r1 st1 t1 _=>by cases hx;exact⟨β1,r1,st1,t1⟩,λv s1 β1 w1 y hx=>by cases hx⟩
 unfold wpOp at h1;unfold wpOpsIn;rw[hj]at h1⊢;simp only at h1⊢;have cP:CF o.op=false:=by unfold nH at hf;rw[au]at hf;simpa using hf.2
 split
 ·rename_i hw;rw[if_pos hw]at h1;rcases h1 with h1 |h1
  ·have h2:=anJ hf h1;have h3:=abd (k:=k) (K':=wpOpsIn Fence.wide k P ops Q l) (Ps (P:=P)) cP (λa' w' ⟨⟨β',r',st',t'⟩,p'⟩=>hQ β' a' w' r' st' t' p') h2;refine⟨h3.1,?_⟩;have h4:=h3.2;cases hr:((o.semAt Fence.wide.round a.eval).run P w)with
   |ok x w'=>
    rw[hr]at h4;cases x with
    |value v=>exact h4
    |skip=>exact h4
    |defer d=>exact h4
    |enter f args=>exact⟨h4.1,h4.2.mono λe w' he=>by cases e<;>first |exact he |exact he.elim | (obtain⟨_,_,hh⟩:=he;exact hh.elim)⟩
    |row r args=>exact h4
    |round l f tmps assign body=>exact⟨h4.1,h4.2.mono λe w' he=>by cases e<;>first |exact he |exact he.elim | (obtain⟨_,_,hh⟩:=he;exact hh.elim)⟩
    |_=>exact h4.elim
   |halt r w'=>rw[hr]at h4;cases r<;>first |exact h4.elim |exact h4
  ·obtain⟨_,_,_,hh⟩:=h1;exact hh.elim
 ·rename_i hw;rw[if_neg hw]at h1;obtain⟨β',r',st',t'⟩:=h1;exact⟨λf _=>trivial,hQ β' _ w r' st' t' (gh.D hf _)⟩
def PI{ts:List Nat}{k:Nat}{Q:Exit->Act->World->Prop}(hT:cH P E.a)(hC:∀g,ck E.a E.b P g (E.f g))(hd:jU n ops=true){l2:List Nat}{s':bu}:
  ∀(l1:List Nat)(s:bu)(β:Nat->bd)(a:Act)(w:World),bA E Z n lo d0 s β a w->l1.Nodup->(∀j∈l1,∃o,ops[j]? =some o/\nH ts o=true)->(∀j∈l1,∀i,gN base j i->s.a i=.c)->(c8 E false gb ops.toList base l1 s).D=some (.a s')->
   (∀β' a' w',bA E Z n lo d0 s' β' a' w'->dF s.a β w s'.a β' w'->(∀i,s.a i=.c->(∀j∈l1,¬gN base j i)->s'.a i=.c)->gh ts a a'->wpOpsIn Fence.wide k P ops Q l2 a' w')->wpOpsIn Fence.wide k P ops Q (l1++l2) a w
 | [],s,β,a,w,r,_,_,_,he,hQ=>by simp only[c8,af.D,Option.some.injEq,gA.a.injEq]at he;subst he;exact hQ β a w r dF.D (λi hi _=>hi) gh.U
 |j::l1,s,β,a,w,r,cP,hf,ec,he,hQ=>by
  rw[c8]at he;obtain⟨x1,h1,h2⟩:=cm he;rw[tB]at cP;obtain⟨o,ho,xo⟩:=hf j aB;cases x1 with
  |b v s1=>simp[af.D]at h2
  |a s1=>refine anK hT hC r hd ho xo (λi h3 h4=>ec j aB i ⟨h3,h4⟩) h1 (λβ1 a1 w1 r1 st1 t1 p1=> ?_);refine PI hT hC hd l1 s1 β1 a1 w1 r1 cP.2 (λk hk=>hf k (by simp[hk])) (λk hk i hi=>rh t1 (ec k (by simp[hk]) i hi) (λhj=>cP.1 (by rw[FD hj hi];exact hk))) h2 (λβ2 a2 w2 r2 st2 d2 p2=> ?_);exact hQ β2 a2 w2 r2 (st1.I st2) (λi hi hj=>d2 i (rh t1 hi (hj j aB)) (λk hk=>hj k (by simp[hk]))) (p1.I p2)
structure kI(Z:Nat->Prop)(w:World)(Z':Nat->Prop)(w':World):Prop where
 a:w.heap.size<=w'.heap.size
 e:∀b,b<w.heap.size->¬Z b->w'.heap[b]? =w.heap[b]?
 c:∀b,Z' b->Z b\/w.heap.size<=b
 d:∀b,Z' b->b<w'.heap.size
def kI.D(h:kI Z w Z' w'):cz w w' Z Z':=⟨h.a,h.e,λb hb hz hz'=>by
 rcases h.c b hz' with h1 |h1
 ·exact hz h1
 ·omega⟩
def kI.I(h:kI Z w Z' w'):cz w w' (aY Z ob β) (aY Z' ob β):=⟨h.a,λb hb hz=>h.e b hb (λhz'=>hz (.inl hz')),λb hb hz hz'=>by
 rcases hz' with h1 |h1
 ·rcases h.c b h1 with h2 |h2
  ·exact hz (.inl h2)
  ·omega
 ·exact hz (.inr h1)⟩
def cY.anL(h:kI Z w Z' w')(cx:cY T G Z ob β w)(o_:∀i,(ob i).D=true->(β i).d=false->¬Z (β i).a):cY T G Z' ob β w' := {
 c:=λi=>by
  by_cases ha:(ob i).D=true
  ·exact(cx.c i).I h.I (λ_ _ hr=>hr) (λhn=>h.e _ ((cx.c i).D ha hn) (o_ i ha hn))
  ·have:ob i=.c:=by cases hq:ob i<;>first |rfl |exact absurd (by rw[hq];rfl) ha
   rw[this];trivial
 p:=λi ha jM hn ho=>by
  have h1:=cx.p i ha jM hn;rcases ho with ho |ho
  ·rcases h.c _ ho with h2 |h2
   ·exact h1 (.inl h2)
   ·have:=(cx.c i).D ha hn;omega
  ·exact h1 (.inr ho)
 d:=cx.d
 m:=h.d
 f:=λi mi hz=>by
  rcases h.c _ hz with h2 |h2
  ·exact cx.f i mi h2
  ·have:=(cx.c i).D (aj.t_ mi.1) mi.2;omega
 n:=λg=>dU.D h.I (cx.n g) }
def jH(ops:Array Oper)(o:Oper)(a:Act):Prop:=Region.wanted o (yielded ops a.tmps)=true
def jV(h:o.guard=none):jH ops o a:=by unfold jH Region.wanted;rw[h]
def JO{l:List Nat}(hj:ops[j]? =some o)(ho:o.op=.move x)(hw:jH ops o a)
  (h:wpOpsIn Fence.wide k P ops Q l (a.put o.dst (a.eval x)) w):wpOpsIn Fence.wide k P ops Q (j::l) a w:=by
 unfold wpOpsIn;rw[hj];simp only;unfold jH at hw;rw[if_pos hw];refine⟨λf _=>trivial,?_⟩;have bm:(o.semAt Fence.wide.round a.eval).run P w=.ok (.value (a.eval x)) w:=by show(execOp a.eval o).run P w=_;simp[execOp,ho]
 rw[bm];exact h
def anM{l:List Nat}{f:Operand}{y:Nat}(hj:ops[j]? =some o)(ho:o.op=.call cl)(hf:cl.callee=.value f)(hw:jH ops o a)
  (hv:a.eval f=.func (.yield y) #[] #[])(hy:YieldAt Fence.wide (k-1) P y (cl.args.map a.eval) w R)
  (h:∀e w',R e w'->∃v,e=.returned v/\wpOpsIn Fence.wide k P ops Q l (a.put o.dst v) w'):wpOpsIn Fence.wide k P ops Q (j::l) a w:=by
 obtain⟨callee,args,argTypes⟩:=cl;simp only at hf;subst hf;obtain⟨fn,tmps,assign,body,bm,YN⟩:=hy;unfold wpOpsIn;rw[hj];simp only;unfold jH at hw;rw[if_pos hw];refine⟨λf _=>trivial,?_⟩;have nw:(o.semAt Fence.wide.round a.eval).run P w=.ok (.round y fn tmps assign body) w:=by show(execOp a.eval o).run P w=_;rw[<-bm];simp[execOp,ho,resolve,hv,Deferred.ofValue,invoke]
 rw[nw];refine⟨(λhd=>by cases hd),YN.mono λe w' he=> ?_⟩;obtain⟨v,rfl,h2⟩:=h e w' he;exact h2
def CQ{l:List Nat}{g:FuncId}(hj:ops[j]? =some o)(ho:o.op=.call cl)(hf:cl.callee=.value (.func g))(hw:jH ops o a)
  (xB:∀args w,(callFunc g args).run P w=.ok (.enter g args) w)(hy:CallsIn Fence.wide (k-1) P g (cl.args.map a.eval) w R)
  (h:∀e w',R e w'->∃v,e=.returned v/\wpOpsIn Fence.wide k P ops Q l (a.put o.dst v) w'):wpOpsIn Fence.wide k P ops Q (j::l) a w:=by
 obtain⟨callee,args,argTypes⟩:=cl;simp only at hf;subst hf;unfold wpOpsIn;rw[hj];simp only;unfold jH at hw;rw[if_pos hw];refine⟨λf _=>trivial,?_⟩;have nw:(o.semAt Fence.wide.round a.eval).run P w=.ok (.enter g (args.map a.eval)) w:=by show(execOp a.eval o).run P w=_;rw[<-xB];simp[execOp,ho,resolve,Act.eval,Deferred.ofValue,invoke]
 rw[nw];refine⟨(λhd=>by cases hd),hy.mono λe w' he=> ?_⟩;obtain⟨v,rfl,h2⟩:=h e w' he;exact h2
def bA.anN(r:bA E Z n lo d0 s β a w){d:Tmp}(hd:d<n){x:Value}(hv:ax E.a w (aY Z s.a β) v (bW E.a s.a β) x):bA E Z n lo d0 {s with b:=bO s.b d v} β (a.put (some d) x) w:=by refine⟨r.f,r.m.D (d:=some d) (λt ht=>by cases ht;rw[r.p];exact hd) hv,by rw[fS];exact r.p,by rw[jT];exact r.z⟩
def bA.abK(r:bA E Z n lo ⟨false,[]⟩ s β a w)(h:kI Z w Z' w')(o_:∀i,(s.a i).D=true->(β i).d=false->¬Z (β i).a):bA E Z' n lo ⟨false,[]⟩ s β a w':=
 ⟨r.f.anL h o_,λt=>ax.D h.I _ _ _ _ (λ_ _ hr=>hr) (r.m t),r.p,by
  obtain⟨h1,l,h2,h3,_⟩:=r.z;have:=h3 rfl;subst this;exact⟨h1,[],h2,λ_=>rfl,Ew,aB⟩⟩
def bA.I(r:bA E Z n lo ⟨false,[]⟩ s β a w):a.defers=[]:=by obtain⟨_,l,h2,h3,_⟩:=r.z;have:=h3 rfl;subst this;simpa using h2
def bA.V{l:List (Nat×aa)}{β:Nat->bd}(bE:a.tmps.size=n)(hd:a.defers=[])(hz:∀b,Z b->b<w.heap.size)(hg:∀g,dU E.a w Z (E.b g) g)
  (hs:∀t,ax E.a w Z (fy .m l t) bh (a.tmps.getD t undef)):bA E Z n lo ⟨false,[]⟩ ⟨fy .m l,λ_=>.c,0⟩ β a w:=by
 have hk:cz w w Z (aY Z (λ_=>aj.c) β):=cz.D (λb hb=>by
  rcases hb with hb | ⟨i,mi,_⟩
  ·exact hb
  ·exact absurd mi.1 (by simp[aj.I]))
 refine⟨⟨λi=>trivial,λi ha=>absurd ha (by simp[aj.D]),λi j _ mi=>absurd mi.1 (by simp[aj.I]),hz,λi mi=>absurd mi.1 (by simp[aj.I]),λg=>dU.D hk (hg g)⟩,
  λt=>ax.D hk _ _ _ _ (λ_ _ h=>h.elim) (hs t),bE,?_⟩
 rw[hd];exact gg.I fR.I
def Ac(o:Oper):Bool:=match o.op with | .move _ | .pick .. | .load .. | .unOp .. | .fieldAddr .. =>true |_=>false
def abL(hT:cH P E.a)(r:bA E Z n lo d0 s β a w)(hs:Ac o=true){base:Nat}{x:gA}(he:(tZ E false gb ol base j o s).D=some x):∃y,(execOp a.eval o).run P w=.ok (.value y) w:=by
 unfold tZ at he;rw[Fb]at he;obtain⟨rs,h1,_⟩:=cm he;have c:ed E P Z s.a (jR false gb ol base j o s.a) β w (oz false ol o s.b) a:=⟨hT,r.f,λi=>.inr rfl,r.m⟩
 unfold Ac at hs;cases ho:o.op with
 |move x=>obtain⟨_,y,_,h2,_⟩:=aae c ho h1;exact⟨y,h2⟩
 |pick x y z=>obtain⟨_,y,_,h2,_⟩:=aaf c ho h1;exact⟨y,h2⟩
 |load t x=>obtain⟨_,y,_,h2,_⟩:=aag c ho h1;exact⟨y,h2⟩
 |unOp op t x=>obtain⟨_,y,_,h2,_⟩:=aah c ho h1;exact⟨y,h2⟩
 |fieldAddr t x f=>obtain⟨_,y,_,h2,_⟩:=aam c ho h1;exact⟨y,h2⟩
 |_=>rw[ho]at hs;cases hs
def anO(hT:cH P E.a)(r:bA E Z n lo d0 s β a w)(hs:Ac o=true)(hd:jU n ops=true)(hj:ops[j]? =some o)(hw:Region.wanted o (yielded ops a.tmps)=true){x:gA}(he:(nD E false gb ops.toList base s j).D=some x):
  ∃y,(execOp a.eval o).run P w=.ok (.value y) w:=by
 unfold nD at he;rw[fu,hj]at he;simp only at he;cases hg:o.guard with
 |none=>rw[hg]at he;exact abL hT r hs he
 |some p=>
  obtain⟨i,want⟩:=p;rw[hg]at he;simp only at he;cases l_:(ops.toList[i]?).bind (·.dst)with
  |none=>rw[l_]at he;simp[af.D]at he
  |some d=>
   rw[l_]at he;simp only at he;rw[fu]at l_;obtain⟨y1,y2⟩:=Pn (ops:=ops) r.m l_ (by rw[r.p];exact CG hd i d l_);split at he
   ·rename_i b hb;have hy:=y1 b hb;have xz:b=want:=by rw[Region.wanted,hg]at hw;simp only[hy]at hw;cases b<;>cases want<;>simp_all
    subst xz;cases b<;>simp only[u_,af.D,ua hb]at he<;>exact abL hT r hs he
   ·rename_i hb;have hy:=y2 hb;rw[Region.wanted,hg]at hw;simp only[hy]at hw;simp at hw
   ·simp[af.D]at he
def anP{l:List Nat}(hT:cH P E.a)(hC:∀g,ck E.a E.b P g (E.f g))(r:bA E Z n lo d0 s β a w)(hd:jU n ops=true)(hj:ops[j]? =some o)(hf:nH ts o=true)(bg:Ac o=true)
  (de:∀i,base+64*j<=i->i<base+64*j+64->s.a i=.c)(he:(nD E false gb ops.toList base s j).D=some (.a s'))
  (hQ:∀β' a',bA E Z n lo d0 s' β' a' w->dF s.a β w s'.a β' w->sr s.a s'.a (base+64*j)->gh ts a a'->wpOpsIn Fence.wide k P ops Q l a' w):wpOpsIn Fence.wide k P ops Q (j::l) a w:=by
 have h1:wpOp P ops (λ_ _ _=>False) j (λa' w'=>∃β',bA E Z n lo d0 s' β' a' w'/\dF s.a β w s'.a β' w'/\sr s.a s'.a (base+64*j)) a w:=
  FC hT hC r (CG hd) de he ⟨λs1 β1 a1 w1 hx r1 st1 t1 _=>by cases hx;exact⟨β1,r1,st1,t1⟩,λv s1 β1 w1 y hx=>by cases hx⟩
 unfold wpOp at h1;unfold wpOpsIn;rw[hj]at h1⊢;simp only at h1⊢;split
 ·rename_i hw;rw[if_pos hw]at h1;obtain⟨y,bm⟩:=anO hT r bg hd hj hw he;rcases h1 with h1 |h1
  ·unfold Oper.wp at h1;rw[bm]at h1;obtain⟨β',r',st',t'⟩:=h1;refine⟨λf _=>trivial,?_⟩;have nw:(o.semAt Fence.wide.round a.eval).run P w=.ok (.value y) w:=bm;rw[nw];exact hQ β' _ r' st' t' (gh.D hf _)
  ·obtain⟨_,_,_,hh⟩:=h1;exact hh.elim
 ·rename_i hw;rw[if_neg hw]at h1;obtain⟨β',r',st',t'⟩:=h1;exact⟨λf _=>trivial,hQ β' _ r' st' t' (gh.D hf _)⟩
def FL{ts:List Nat}{k:Nat}{Q:Exit->Act->World->Prop}(hT:cH P E.a)(hC:∀g,ck E.a E.b P g (E.f g))(hd:jU n ops=true){l2:List Nat}{s':bu}:
  ∀(l1:List Nat)(s:bu)(β:Nat->bd)(a:Act),bA E Z n lo d0 s β a w->l1.Nodup->(∀j∈l1,∃o,ops[j]? =some o/\nH ts o=true/\Ac o=true)->(∀j∈l1,∀i,gN base j i->s.a i=.c)->(c8 E false gb ops.toList base l1 s).D=some (.a s')->
   (∀β' a',bA E Z n lo d0 s' β' a' w->dF s.a β w s'.a β' w->gh ts a a'->wpOpsIn Fence.wide k P ops Q l2 a' w)->wpOpsIn Fence.wide k P ops Q (l1++l2) a w
 | [],s,β,a,r,_,_,_,he,hQ=>by simp only[c8,af.D,Option.some.injEq,gA.a.injEq]at he;subst he;exact hQ β a r dF.D gh.U
 |j::l1,s,β,a,r,cP,hf,ec,he,hQ=>by
  rw[c8]at he;obtain⟨x1,h1,h2⟩:=cm he;rw[tB]at cP;obtain⟨o,ho,xo,aK_⟩:=hf j aB;cases x1 with
  |b v s1=>simp[af.D]at h2
  |a s1=>refine anP hT hC r hd ho xo aK_ (λi h3 h4=>ec j aB i ⟨h3,h4⟩) h1 (λβ1 a1 r1 st1 t1 p1=> ?_);refine FL hT hC hd l1 s1 β1 a1 r1 cP.2 (λk hk=>hf k (by simp[hk])) (λk hk i hi=>rh t1 (ec k (by simp[hk]) i hi) (λhj=>cP.1 (by rw[FD hj hi];exact hk))) h2 (λβ2 a2 r2 st2 p2=> ?_);exact hQ β2 a2 r2 (st1.I st2) (p1.I p2)
def FM(r:bA E Z n lo d0 s β a w)(hd:jU n ops=true){i d:Nat}{want b:Bool}(hg:o.guard=some (i,want))(hi:(ops[i]?).bind (λo:Oper=>o.dst)=some d)(hs:s.b d=.p b):(Region.wanted o (yielded ops a.tmps)=true)↔b=want:=by obtain⟨y1,_⟩:=Pn (ops:=ops) r.m hi (by rw[r.p];exact CG hd i d hi);rw[Region.wanted,hg];simp only[y1 b hs];cases b<;>cases want<;>simp
def anQ{l:List Nat}(r:bA E Z n lo d0 s β a w)(hd:jU n ops=true)(hj:ops[j]? =some o)(hf:nH ts o=true)(hw:¬Region.wanted o (yielded ops a.tmps)=true)
  (hQ:bA E Z n lo d0 {s with b:=iO s.b o.dst (.q [])} β (a.put o.dst undef) w->gh ts a (a.put o.dst undef)->wpOpsIn Fence.wide k P ops Q l (a.put o.dst undef) w):wpOpsIn Fence.wide k P ops Q (j::l) a w:=by
 unfold wpOpsIn;rw[hj];simp only;rw[if_neg hw];exact⟨λf _=>trivial,hQ (r.aa6 λt ht=>CG hd j t (by rw[hj];exact ht)) (gh.D hf _)⟩
end
def PJ(k:IntKind):Nat:=@IntKind.rec (λ_=>Nat) 128 (32768) (2147483648) (9223372036854775808) (256) (65536) (4294967296) (18446744073709551616) k
def anR(k:IntKind)(n:Nat)(h:Nat.blt n (PJ k)=true):k.wrap (Int.ofNat n)=Int.ofNat n:=by have h1:n<PJ k:=ft h;have e:(Int.ofNat n)=(n:Int):=rfl;rw[e];unfold IntKind.wrap;cases k<;>simp only[PJ,IntKind.bits,IntKind.signed,qJ,Ng]at* <;>(try rw[if_neg])<;>first |omega | (simp;done) | (simp;omega)
section
variable{F:Fence}{n:Nat}{P:Program}{ops:Array Oper}{Q:Exit->Act->World->Prop}{md:Region.Mode}
def JP{listed:Array Bool}{i:Nat}(h:i∈Region.ready md ops listed):i<ops.size/\listed.getD i true=false/\∃o,ops[i]? =some o/\∀e∈o.after.toList,Region.binds md e=true->listed.getD e.on false=true:=by
 unfold Region.ready at h;obtain⟨h1,h2⟩:=List.mem_filter.1 h;rw[au]at h2;obtain⟨h3,h4⟩:=h2;refine⟨by simpa using h1,by simpa using h3,?_⟩;cases ho:ops[i]? with
 |none=>rw[ho]at h4;cases h4
 |some o=>rw[ho]at h4;simp only[jt,lr]at h4;rw[X3]at h4;refine⟨o,rfl,λe he hb=> ?_⟩;have:=h4 e (by simpa using he);rw[hb]at this;simpa using this
def FN(ops:Array Oper)(listed:Array Bool):Nat:=((List.range ops.size).filter λi=> !listed.getD i true).length
def PK(I:Array Bool->Act->World->Prop)(bE:∀listed a w,I listed a w->listed.size=ops.size)
  (BV:∀listed a w,I listed a w->∀i∈Region.ready md ops listed,wpOpIn F n P ops Q i (I (listed.setIfInBounds i true)) a w)
  (eC:∀listed a w,I listed a w->Region.ready md ops listed=[]->Q .normal a w):∀(fuel:Nat)(listed:Array Bool)(a:Act)(w:World),I listed a w->FN ops listed<=fuel->wpAnyIn F n P md ops Q fuel listed a w
 |0,listed,a,w,hI,hf=>by
  have hr:Region.ready md ops listed=[]:=by rw[ajl];intro i hi;obtain⟨h1,h2,_⟩:=JP hi;have:i∈(List.range ops.size).filter λi=> !listed.getD i true:=List.mem_filter.2 ⟨by simpa using h1,by simp[h2]⟩;have h3:=List.length_pos_of_mem this;unfold FN at hf;omega
  exact⟨hr,eC listed a w hI hr⟩
 |fuel+1,listed,a,w,hI,hf=>by
  refine⟨λhr=>eC listed a w hI hr,λi hi=>xk (λa' w' hI'=>PK I bE BV eC fuel _ a' w' hI' ?_) (BV listed a w hI i hi)⟩;obtain⟨h1,h2,_⟩:=JP hi;have aM3:=bE _ _ _ hI;have Il:i∈(List.range ops.size).filter λi=> !listed.getD i true:=List.mem_filter.2 ⟨by simpa using h1,by simp[h2]⟩;have mF:((List.range ops.size).filter λj=> !(listed.setIfInBounds i true).getD j true)=((List.range ops.size).filter λj=> !listed.getD j true).erase i:=by
   rw[List.Nodup.erase_eq_filter (List.nodup_range.filter _),XX];refine XY λj hj=> ?_;simp only[fh];by_cases gH:i=j
   ·subst gH;rw[Nj ab];simp
   ·rw[EB gH];have:(j !=i)=true:=by simp[lY gH]
    rw[this];simp
  unfold FN at hf⊢;rw[mF,List.length_erase_of_mem Il];omega
def abM{id:Nat}{a:Act}(h:∀md,wpAnyIn F n P md ops Q ops.size (Array.replicate ops.size false) a {w with drawn:=w.drawn+1}):(Code.region id ops true).wpIn F n P Q a w:=by
 refine wpIn_region_draw λt=> ?_;unfold Region.schedule;split
 ·exact wpAnyIn_sound ops.size _ _ a _ (h _)
 ·exact wpAnyIn_sound ops.size _ _ a _ (h _)
end
section
variable{T:TypeId->bz}{P:Program}{w:World}{a:Act}{o:Oper}
def uf(hT:cH P T){f:Nat}{gs:List (Nat×Nat×Bool)}(hd:(T t).c=.f gs){off n:Nat}{ag:Bool}(hf:gs[f]? =some (off,n,ag)){b:Nat}(ho:o.op=.fieldAddr t x f)(hv:a.eval x=.pointer (some ⟨b,k,none⟩)):
  (execOp a.eval o).run P w=.ok (.value (.pointer (some ⟨b,k+off,none⟩))) w:=by
 have row:=hT.D (jh hd aB);obtain⟨fs,hu,rfl,_,rT,_⟩:=row.zV hd;rw[fX]at hf;cases hq:fs.toList[f]? with
 |none=>rw[hq]at hf;cases hf
 |some fl=>
  rw[hq]at hf;simp only[jt,Option.some.injEq,Prod.mk.injEq]at hf;obtain⟨rfl,rfl,rfl⟩:=hf;have hq':fs[f]? =some fl:=by simpa using hq
  obtain⟨h1,h2,h3⟩:=rT fl (eg hq);simp[execOp,ho,hv,Instr.fieldAt,dR hu,hq',Instr.sureAddr,fieldPlace,Fs h1,h3,i_]
def ye(hT:cH P T)(ht:(T t).D=true)(ha:(T t).b=false){b:Nat}{u:Value}{r:List Value}(hl:dH w b k (u::r))(ho:o.op=.load t x)(hv:a.eval x=.pointer (some ⟨b,k,none⟩)):(execOp a.eval o).run P w=.ok (.value u) w:=by obtain⟨_,r2⟩:=Fq (P:=P) hT ht hl;simp[execOp,ho,hv,r2 ha u r rfl]
def abN(hT:cH P T)(ht:(T t).D=true)(ha:(T t).b=true){b:Nat}{l:List Value}(hl:dH w b k l)(hs:(T t).a<=l.length)(ho:o.op=.load t x)(hv:a.eval x=.pointer (some ⟨b,k,none⟩)):(execOp a.eval o).run P w=.ok (.value (.agg (l.take (T t).a).toArray)) w:=by obtain⟨r1,_⟩:=Fq (P:=P) hT ht hl;simp[execOp,ho,hv,r1 ha hs]
def abO{p:Addr}(ho:o.op=.nilCheck x)(hv:a.eval x=.pointer (some p)):(execOp a.eval o).run P w=.ok (.value (.pointer (some p))) w:=by simp[execOp,ho,hv]
def CR(ho:o.op=.move x):(execOp a.eval o).run P w=.ok (.value (a.eval x)) w:=by simp[execOp,ho]
def PL{b:Bool}(ho:o.op=.unOp .not t x)(hv:a.eval x=.bool b):(execOp a.eval o).run P w=.ok (.value (.bool !b)) w:=by simp[execOp,ho,hv,Op.unary]
end
def kJ(hu:P.underlying t=some (.slice e))(a:Option Addr)(n k:Nat):(binOp .eql t (.slice a n k) (.slice none 0 0)).run P w=.ok (.bool a.isNone) w:=by rw[(Go.AH.zX (t:=t) (x:=.slice a n k) (y:=.slice none 0 0) rfl).1,eh,show(Op.equal t (.slice a n k) (.slice none 0 0)).run P w=.ok a.isNone w from Ji 9999 hu a n k];rfl
def Below.JQ(h:Below w.heap.size w w'):cc w.heap.size w w':=by obtain⟨h1,h2,h3,h4,h5⟩:=h;exact⟨h1,h2,h3,h4,λb hb=>.inl (h5 b hb)⟩
section
variable{T:TypeId->bz}{G:Nat->aa}{P:Program}
def JR(hf:P.funcs[f]? =some fn)(gu:(fn.name== "runtime.NumGoroutine")=false)(hb:fn.body.isSome=true)
  (hE:∀(a:Option Addr)(cap:Nat)(w:World),Calls P f #[.slice a 0 cap] w λe w'=>(∃a' c',e=.returned (.slice a' 0 c'))/\Below w.heap.size w w')
 (cx:cY T G Z (a_ []) β w)(hc:∃a cap,bk= #[.slice a 0 cap]):xZ P f bk w (kE T G Z [] β w (.a (.d e []) [])):=by
 obtain⟨a,cap,rfl⟩:=hc;have h3:fn.name≠ "runtime.NumGoroutine" :=by simpa using gu
 obtain⟨c,hc⟩:=Option.isSome_iff_exists.1 hb;refine .inl ⟨by simp[callFunc,hf,h3,hc],(hE a cap w).mono (λe w' he=> ?_)⟩;obtain⟨⟨a',c',rfl⟩,aK'⟩:=he;have q:=Below.JQ aK';exact⟨_,[],β,rfl,cx.I q,dZ.D.I q,a',c',rfl,ik _,.inl rfl⟩
def CS{R:aa->Value->Prop}(h:aF T w O [v] R bk.toList):∃x,bk= #[x]/\ax T w O v R x:=by obtain⟨x,r,e1,h1,e2⟩:=h;have e2:r=[]:=e2;subst e2;refine⟨x,?_,h1⟩;obtain⟨l⟩:=bk;simp at e1;rw[e1]
def abP(hT:cH P T)(hf:P.funcs[f]? =some fn)(gu:(fn.name== "runtime.NumGoroutine")=false)(hb:fn.body.isSome=true)(hu:P.underlying t=some (.slice e))(bH:(T e).D=true)
  (hN:∀(ad:Option Addr)(n cap:Nat)(w w':World)(r:Value),n≠0->ad.isNone=false->(Builtin.append_ #[t,t] ty #[.slice (some ⟨w.heap.size,0,none⟩) 0 0,.slice ad n cap]).run P (w.alloc (.cells #[] e))=.ok r w'->Calls P f #[.slice ad n cap] w λe w''=>e=.returned r/\w''=w')
 {x:Value}(cx:cY T G Z (a_ []) β w)(hx:ax T w (aY Z (a_ []) β) (.d e (v::vs)) (bW T (a_ []) β) x)(l8:(v::vs).length<=eU)
  (hR:∀w' l' β',cY T G Z (a_ [.b false 0 e (v::vs)]) β' w'->dZ 0 (a_ []) β w (a_ [.b false 0 e (v::vs)]) β' w'->β' 0=l'->l'.c=0->l'.d=false->(v::vs).length<=l'.b->R (.returned (.slice l'.D (v::vs).length l'.b)) w'):xZ P f #[x] w R:=by
 obtain⟨a,cap,rfl,fQ,h0 | ⟨b,o,rfl,eT,hO,hs⟩⟩:=hx
 ·cases h0
 have h3:fn.name≠ "runtime.NumGoroutine" :=by simpa using gu
 obtain⟨c,hc⟩:=Option.isSome_iff_exists.1 hb;have q:cc w.heap.size w (w.alloc (.cells #[] e)):=cc.V w _;have cx1:=cx.I q;have ir:bN T (w.alloc (.cells #[] e)) (aY Z (a_ []) β) (v::vs) e b o:=bN.V q _ _ _ _ eT hs;obtain⟨E,hE⟩:∃E:bD,E.a=T/\E.b=G:=⟨⟨T,λ_ _ _=>.d,λ_ _ _ _=>.d,λ_=> [],G,λ_=> [],λ_=> [],λ_ _=>.d,λ_=>false⟩,rfl,rfl⟩
 obtain⟨rfl,rfl⟩:=hE;obtain⟨l',w',bm,c1,c2,hle,lf,EU⟩:=O2 (E:=E) (ty:=ty) (c':=cap) (vs:=[]) (a0:=some ⟨w.heap.size,0,none⟩) (γ:=0) (k:=0) (new:=v::vs) (ad:=some ⟨b,o,none⟩) hT cx1 bH hu (λ_ _=>trivial) (.inl rfl) ⟨b,o,rfl,ir⟩ aB (by simpa using l8);simp only[rQ,gF,zj]at bm c1 c2 hle;have hh:bO (a_ []) 0 (aj.b false 0 e (v::vs))=a_ [.b false 0 e (v::vs)]:=by
  funext i
  cases i with
  |zero=>exact dt _ _ _
  |succ i=>rw[fj _ _ ab];rfl
 rw[hh]at c1 c2;refine .inl ⟨by simp[callFunc,hf,h3,hc],(hN _ _ _ w w' _ aB rfl bm).mono (λe' w'' he=> ?_)⟩;obtain⟨rfl,rfl⟩:=he;refine hR _ l' _ c1 ?_ (dt _ _ _) EU lf hle;exact(dZ.D.I q).Jv (c2.U (m:=0))
def yf(hT:cH P T)(hf:P.funcs[f]? =some fn)(gu:(fn.name== "runtime.NumGoroutine")=false)(hb:fn.body.isSome=true)
  (hE:∀(a:Option Addr)(cap:Nat)(w:World),Calls P f #[.slice a 0 cap] w λe w'=>(∃a' c',e=.returned (.slice a' 0 c'))/\Below w.heap.size w w')(hu:P.underlying t=some (.slice e))(bH:(T e).D=true)
  (hN:∀(ad:Option Addr)(n cap:Nat)(w w':World)(r:Value),n≠0->ad.isNone=false->(Builtin.append_ #[t,t] ty #[.slice (some ⟨w.heap.size,0,none⟩) 0 0,.slice ad n cap]).run P (w.alloc (.cells #[] e))=.ok r w'->Calls P f #[.slice ad n cap] w λe w''=>e=.returned r/\w''=w'):ck T G P f (kH e):=by
 intro args ao out cM iL Z β w bk cx cN;unfold kH at cM;split at cM
 ·rename_i tt vs;obtain⟨x,rfl,hx⟩:=CS cN;cases vs with
  |nil=>simp only[af.D,Option.some.injEq]at cM;subst cM;obtain⟨a,cap,rfl,_⟩:=hx;exact JR hf gu hb hE cx ⟨_,_,rfl⟩
  |cons v vs=>
   simp only at cM;split at cM
   ·rename_i iq;obtain rfl:=aV iq;obtain⟨h1,h2⟩:=aO cM;simp only[bC]at h1;simp only[af.D,Option.some.injEq]at h2;subst h2;refine abP hT hf gu hb hu bH hN cx hx h1 (λw' l' β' c1 wk hl EU lf hle=> ?_);refine⟨_,_,β',rfl,c1,wk,false,0,tt,v::vs,rfl,bj _,⟨_,_,rfl,hle,λ_=>⟨l'.a,l'.c,by simp[bd.D,lf]⟩⟩,λ_=>⟨rfl,rfl,by rw[hl]⟩⟩
   ·simp[af.D]at cM
 ·obtain⟨x,rfl,hx⟩:=CS cN;simp only[af.D,Option.some.injEq]at cM;subst cM;have hx':x=.slice none 0 0:=hx;subst hx';exact JR hf gu hb hE cx ⟨_,_,rfl⟩
 ·simp[af.D]at cM
def bN.abQ(hT:cH P T){w:World}{O:Nat->Prop}{e b:Nat}(bH:(T e).D=true){arr:Array Value}{et:TypeId}{fz:Nat×Nat}(hb:w.heap[b]? =some (.cells arr et fz)):∀(vs:List aa)(o:Nat),bN T w O vs e b o->o+vs.length*(T e).a<=arr.size->aF T w O (vs.flatMap aa.V) bh ((arr.toList.drop o).take (vs.length*(T e).a))/\(vs.flatMap aa.V).length=vs.length*(T e).a
 | [],o,_,_=>by simp[aF]
 |v::vs,o,h,hle=>by
  obtain⟨⟨f1,f2⟩,⟨cs,h2,h3,h4⟩,h5⟩:=h;rw[eM,lu]at hle;obtain⟨ih1,ih2⟩:=bN.abQ hT bH hb vs (o+(T e).a) h5 ab;have h6:=Cw (hT.D bH) f1 h2 h4;have aM4:=h6.I;have fE:cs=(arr.toList.drop o).take (T e).a:=by
   apply M4;intro j;by_cases hj:j<(T e).a
   ·have nr:cs[j]? =some (cs[j]'ab):=cV ab;have:=h3 j _ nr;simp only[World.cell?,hb]at this;rw[rP,if_pos hj,xf,nr,<-this];simp
   ·rw[kY ab,kY (by simp;omega)]
  refine⟨?_,by rw[List.flatMap_cons,eG,ih2,eM,lu];omega⟩;rw[List.flatMap_cons,eM,lu,Ni,List.take_add,MZ];rw[fE]at h6;exact h6.U ih1
def PM(hT:cH P T)(hf:P.funcs[f]? =some fn)(gu:(fn.name== "runtime.NumGoroutine")=false)(hb:fn.body.isSome=true)
  (hE:∀(a:Option Addr)(cap:Nat)(w:World),Calls P f #[.slice a 0 cap] w λe w'=>(∃a' c',e=.returned (.slice a' 0 c'))/\Below w.heap.size w w')(hu:P.underlying t=some (.slice e))(bH:(T e).D=true)
  (hN:∀(ad:Option Addr)(n cap:Nat)(w w':World)(r:Value),n≠0->ad.isNone=false->(Builtin.append_ #[t,t] ty #[.slice (some ⟨w.heap.size,0,none⟩) 0 0,.slice ad n cap]).run P (w.alloc (.cells #[] e))=.ok r w'->Calls P f #[.slice ad n cap] w λe w''=>e=.returned r/\w''=w'):ck T G P f (yd e):=by
 intro args ao out cM iL Z β w bk cx cN;unfold yd at cM;split at cM
 ·rename_i tt vs;obtain⟨x,rfl,hx⟩:=CS cN;cases vs with
  |nil=>simp only[af.D,Option.some.injEq]at cM;subst cM;obtain⟨a,cap,rfl,_⟩:=hx;exact JR hf gu hb hE cx ⟨_,_,rfl⟩
  |cons v vs=>
   simp only at cM;split at cM
   ·rename_i iq;obtain rfl:=aV iq;obtain⟨h1,h2⟩:=aO cM;simp only[bC]at h1;simp only[af.D,Option.some.injEq]at h2;subst h2;refine abP hT hf gu hb hu bH hN cx hx h1 (λw' l' β' c1 wk hl EU lf hle=> ?_);have dd:=c1.c 0;obtain⟨_,⟨h7,_⟩ | ⟨hn,cur,YO,fQ,BN,fE,jw⟩⟩:=dd
    ·rw[hl,lf]at h7;cases h7
    rw[hl,EU]at jw;rw[hl,EU,gF]at fE;rw[hl]at YO;have hmul:(v::vs).length*(T tt).a<=l'.b*(T tt).a:=Eo _ hle;obtain⟨g1,g2⟩:=bN.abQ hT bH YO (v::vs) 0 jw ab;rw[oc]at g1;have iu:∀i,cQ (a_ [.b false 0 tt (v::vs)]) β' i->cQ (a_ [.a false ((v::vs).flatMap aa.V)]) β' i:=λi hi=>by
     cases i with
     |zero=>exact⟨rfl,hi.2⟩
     |succ i=>have:=hi.1;cases this
    have Ix:∀i,cQ (a_ [.a false ((v::vs).flatMap aa.V)]) β' i->cQ (a_ [.b false 0 tt (v::vs)]) β' i:=λi hi=>by
     cases i with
     |zero=>exact⟨rfl,hi.2⟩
     |succ i=>have:=hi.1;cases this
    have hO:∀b,aY Z (a_ [.a false ((v::vs).flatMap aa.V)]) β' b->aY Z (a_ [.b false 0 tt (v::vs)]) β' b:=by
     rintro b (hz | ⟨i,mi,e⟩)
     ·exact .inl hz
     ·exact .inr ⟨i,Ix i mi,e⟩
    have cxB:cY T G Z (a_ [.a false ((v::vs).flatMap aa.V)]) β' w':=by
     refine⟨λi=> ?_,λi ha hr hn=> ?_,λi j gH mi mj=>c1.d i j gH (Ix i mi) (Ix j mj),c1.m,λi mi=>c1.f i (Ix i mi),λg=>dU.D (cz.D hO) (c1.n g)⟩
     ·cases i with
      |zero=>refine⟨by rw[hl];exact lf,cur,tt,by rw[hl];exact YO,?_⟩;rw[g2];exact aF.D (cz.D hO) _ _ _ _ (λ_ _ h=>h.elim) g1
      |succ i=>trivial
     ·cases i with
      |zero=>cases hr
      |succ i=>cases ha
    refine⟨_,_,β',rfl,cxB,⟨wk.f,wk.n,wk.p,wk.c,wk.d,λi mi=>wk.r i (Ix i mi),λi hi=>by simp at hi⟩,⟨false,_,rfl⟩,l'.b,hle,?_⟩;simp[bd.D,lf,EU,hl]
   ·simp[af.D]at cM
 ·obtain⟨x,rfl,hx⟩:=CS cN;simp only[af.D,Option.some.injEq]at cM;subst cM;have hx':x=.slice none 0 0:=hx;subst hx';exact JR hf gu hb hE cx ⟨_,_,rfl⟩
 ·simp[af.D]at cM
end
def Ad{rest:List Oper}{a:Act}
  (hg:o.guard=none)(s x:Operand)(ats:Array TypeId)(aLa:o.op=Op.call {callee:=Callee.builtin Builtin.append,args:= #[s,x],argTypes:=ats}){r vs vx:Value}(hs:a.eval s=vs)(hx:a.eval x=vx)
  (bm:(Builtin.append_ ats o.type #[vs,vx]).run P w=.ok r w')(k:wpList P ops Q rest (a.put o.dst r) w'):wpList P ops Q (o::rest) a w:=by
 refine wpList_plain hg λK hK'=> ?_;unfold Oper.wp;simp[execOp,aLa,resolve,invoke,builtin,hs,hx,bm,Result.andThen];exact hK' _ _ k
def kb(p:Nat->Prop):Prop:=∃n,∀k,n<=k->p k
def kb.V(h:∀k,p k):kb p:=⟨0,λk _=>h k⟩
def kb.I{q:Nat->Prop}(h1:kb p)(h2:kb q):kb λk=>p k/\q k:=by obtain⟨a,ha⟩:=h1;obtain⟨b,hb⟩:=h2;exact⟨max a b,λk hk=>⟨ha k ab,hb k ab⟩⟩
def kb.D{q:Nat->Prop}(h:kb p)(zq:∀k,p k->q k):kb q:=by obtain⟨a,ha⟩:=h;exact⟨a,λk hk=>zq k (ha k hk)⟩
def kb.U(h:kb p):∃k,p k:=by obtain⟨a,ha⟩:=h;exact⟨a,ha a (bj _)⟩
def anS{E E':bD}(h:yb E E'){ajY:Nat}(hf:fuel<=ajY)(he:(kG E fuel ls m key vs os).D=some r):(kG E' ajY ls m key vs os).D=some r:=by
 unfold kG at*;split at he
 ·exact CO (λ_ _ _=>CL h) _ _ _ _ _ hf he
 ·exact CP (λ_ _ _=>CM h) _ _ _ _ _ hf he
 ·split at he
  ·exact JL (λ_ _ _ _=>CN h) _ _ _ _ he
  ·simp[af.D]at he
 ·simp[af.D]at he
def sG(g:eH)(C:FuncId->aq)(d:dQ):∀(k k' n n':Nat),k<=k'->n<=n'->yb (cG g C d n k) (cG g C d n' k')
 |0,0,n,n',_,_=>⟨⟨_,rfl⟩,λm key vs os r h=>by simp[cG,af.D]at h⟩
 |0,k'+1,n,n',_,_=>⟨⟨_,rfl⟩,λm key vs os r h=>by simp[cG,af.D]at h⟩
 |k+1,0,n,n',h,_=>absurd h ab
 |k+1,k'+1,n,n',hk,hn=>⟨⟨_,rfl⟩,λm key vs os r h=>anS (sG g C d k k' n n' ab hn) hn h⟩
section
variable{g:eH}{C:FuncId->aq}{d:dQ}
def bw(g:eH)(C:FuncId->aq)(d:dQ)(m key:Nat)(vs:List aa)(os:List aj)(r:aU×List aa×List aj):Prop:=∃k,((cG g C d k k).d m key vs os).D=some r
def bw.U(h:bw g C d m key vs os r):kb λk=>((cG g C d k k).d m key vs os).D=some r:=by obtain⟨n,hn⟩:=h;exact⟨n,λk hk=>(sG g C d n k n k hk hk).b _ _ _ _ _ hn⟩
def ay(g:eH)(C:FuncId->aq)(d:dQ)(L:dk):bD:={cG g C d 0 0 with d:=L}
def cJ(g:eH)(C:FuncId->aq)(d:dQ)(L:dk):Prop:=∀m key vs os r,(L m key vs os).D=some r->bw g C d m key vs os r
variable{L:Nat->Nat->List aa->List aj->af (aU×List aa×List aj)}
def rl(k:Nat):cG g C d k k={ay g C d L with d:=(cG g C d k k).d}:=by cases k<;>rfl
def anT(k m id:Nat)(ops:Array Oper)(draw:Bool)(s:bu):cy (cG g C d k k) m (.region id ops draw) s=cy (ay g C d L) m (.region id ops draw) s:=by rw[rl (L:=L)];exact abA (E:=ay g C d L) m id ops draw s
def FO(k:Nat)(s:Nat->aa)(x:Operand):aN (cG g C d k k) s x=aN (ay g C d L) s x:=by rw[rl (L:=L)];rfl
def nI(hL:cJ g C d L):∀(c:Code)(m:Nat)(s:bu)(x:aU×bu),(cy (ay g C d L) m c s).D=some x->kb λk=>(cy (cG g C d k k) m c s).D=some x
 | .skip,m,s,x,he=>.V λ_=>he
 | .label l,m,s,x,he=>.V λ_=>he
 | .exit id,m,s,x,he=>.V λ_=>he
 | .ret,m,s,x,he=>.V λ_=>he
 | .goto l,m,s,x,he=>.V λ_=>he
 | .refuse l,m,s,x,he=>by simp[cy,af.D]at he
 | .scope c,m,s,x,he=>by
  rw[cy]at he;obtain⟨y,h1,h2⟩:=cm he;have i1:=nI hL c m s y h1;obtain⟨ex,s1⟩:=y;cases ex with
  |d l=>
   simp only at h2;split at h2
   ·rename_i rest EV;obtain⟨z,h3,h4⟩:=cm h2;refine(i1.I (hL _ _ _ _ _ h3).U).D λk ⟨a1,a2⟩=> ?_;rw[cy];refine eO a1 ?_;simp only[EV];rw[rl (L:=L)]at a2⊢;exact eO a2 h4
   ·simp[af.D]at h2
  |_=>exact i1.D λk a1=>by rw[cy];exact eO a1 h2
 | .region id ops draw,m,s,x,he=>.V λk=>by rw[anT];exact he
 | .seq a b,m,s,x,he=>by
  rw[cy]at he;obtain⟨y,h1,h2⟩:=cm he;have i1:=nI hL a m s y h1;obtain⟨ex,s1⟩:=y;cases ex with
  |b=>exact(i1.I (nI hL b m s1 x h2)).D λk ⟨a1,a2⟩=>by rw[cy];exact eO a1 a2
  |_=>exact i1.D λk a1=>by rw[cy];exact eO a1 h2
 | .cond c a b,m,s,x,he=>by
  cases c with
  |tmp t=>
   simp only[cy]at he;split at he
   ·rename_i v hv;cases v with
    |true=>exact(nI hL a m _ x he).D λk a1=>by simp only[cy];rw[FO (L:=L),hv];exact a1
    |false=>exact(nI hL b m _ x he).D λk a1=>by simp only[cy];rw[FO (L:=L),hv];exact a1
   ·simp[af.D]at he
  |_=>
   simp only[cy]at he;split at he
   ·rename_i v hv;cases v with
    |true=>exact(nI hL a m _ x he).D λk a1=>by simp only[cy];rw[FO (L:=L),hv];exact a1
    |false=>exact(nI hL b m _ x he).D λk a1=>by simp only[cy];rw[FO (L:=L),hv];exact a1
   ·simp[af.D]at he
 | .block id c,m,s,x,he=>by rw[cy]at he;obtain⟨y,h1,h2⟩:=cm he;exact(nI hL c m s y h1).D λk a1=>by rw[cy];exact eO a1 h2
 | .loop b,m,s,x,he=>by rw[cy]at he;obtain⟨y,h1,h2⟩:=cm he;refine(hL _ _ _ _ _ h1).U.D λk a1=> ?_;rw[cy];rw[rl (L:=L)]at a1⊢;exact eO a1 h2
 | .rangeFunc f ps a b,m,s,x,he=>by
  rw[cy]at he;split at he
  ·rename_i gf eN jN;split at he
   ·rename_i Ca;obtain⟨items,jP,he⟩:=cm he;obtain⟨y,h1,h2⟩:=cm he;refine(hL _ _ _ _ _ h1).U.D λk a1=> ?_;rw[cy,FO (L:=L),jN];simp only[Ca];rw[rl (L:=L)]at a1⊢;exact eO jP (eO a1 h2)
   ·simp[af.D]at he
  ·simp[af.D]at he
def anU(hL:cJ g C d L)(he:(cB (ay g C d L) m key b vs os).D=some y):kb λk=>(cB (cG g C d k k) m key b vs os).D=some y:=by unfold cB at he;obtain⟨x,h1,h2⟩:=cm he;refine(nI hL b m _ x h1).D λk a1=> ?_;unfold cB;rw[rl (L:=L)]at a1⊢;exact eO a1 h2
def anV(hL:cJ g C d L)(he:(mN (ay g C d L) m key b vs os).D=some y):kb λk=>(mN (cG g C d k k) m key b vs os).D=some y:=by unfold mN at he;obtain⟨x,h1,h2⟩:=cm he;refine(nI hL b m _ x h1).D λk a1=> ?_;unfold mN;rw[rl (L:=L)]at a1⊢;exact eO a1 h2
def anW(hL:cJ g C d L){x:aa}(he:(oA (ay g C d L) m ps a b x vs os).D=some y):kb λk=>(oA (cG g C d k k) m ps a b x vs os).D=some y:=by
 unfold oA at he;split at he
 ·rename_i xs;split at he
  ·rename_i hc;obtain⟨⟨e1,s1⟩,h1,h2⟩:=cm he;have i1:=nI hL a _ _ _ h1;cases e1 with
   |b=>obtain⟨x2,h3,h4⟩:=cm h2;refine(i1.I (nI hL b _ _ _ h3)).D λk ⟨a1,a2⟩=> ?_;unfold oA;simp only[hc];rw[rl (L:=L)]at a1 a2⊢;exact eO a1 (eO a2 h4)
   |_=>simp[af.D]at h2
  ·simp[af.D]at he
 ·simp[af.D]at he
def Ae(g:eH)(C:FuncId->aq)(d:dQ)(m key:Nat)(y r:aU×List aa×List aj):Prop:=match y with | (.b,vs',os')=>bw g C d m key vs' os' r |y=>y=r
def bw.anX(hk:((dj d.D).map fT.D).Nodup)(hb:fT.c b∈dj d.D)(hL:cJ g C d L)
  (he:(cB (ay g C d L) m (cF b) b vs os).D=some y)(hn:Ae g C d m (cF b) y r):bw g C d m (cF b) vs os r:=by
 have ov:∀k,(cG g C d (k+1) (k+1)).d m (cF b)=nG (cB (cG g C d (k+1) k) m (cF b) b) (k+1):=λk=>by
  funext vs os
  show kG (cG g C d (k+1) k) (k+1) (dj d.D) m (cF b) vs os=_;unfold kG;have:=yc _ _ hk hb;rw[show sD (cF b) (dj d.D)=some (.c b)from this]
 have hs:=anU hL he;obtain⟨e,vs',os'⟩:=y;cases e with
 |b=>
  replace hn:bw g C d m (cF b) vs' os' r:=hn
  obtain⟨k,⟨h1,h2⟩,h3⟩:=((hs.I hn.U).I (⟨1,λk hk=>hk⟩:kb λk=>1<=k)).U;obtain⟨j,rfl⟩:∃j,k=j+1:=⟨k-1,ab⟩
  refine⟨j+1+1,?_⟩;rw[ov,nG];refine eO (CL (sG g C d (j+1) (j+1) (j+1) (j+1+1) (bj _) ab) h1) ?_;rw[ov]at h2;exact CO (λ_ _ _=>CL (sG g C d j (j+1) (j+1) (j+1+1) ab ab)) _ _ _ _ _ (bj _) h2
 |_=>obtain⟨k,h1⟩:=hs.U;refine⟨k+1,?_⟩;rw[ov,nG];refine eO (CL (sG g C d k k k (k+1) (bj _) ab) h1) ?_;simp only[af.D,Option.some.injEq];exact hn
def bw.V(hk:((dj d.D).map fT.D).Nodup)(hb:fT.e l b∈dj d.D)(hL:cJ g C d L)
  (he:(mN (ay g C d L) m (kD l b) b vs os).D=some y)(hn:match y with | (.d l',vs',os')=>l'=l/\bw g C d m (kD l b) vs' os' r |y=>y=r):bw g C d m (kD l b) vs os r:=by
 have ov:∀k,(cG g C d (k+1) (k+1)).d m (kD l b)=lI l (mN (cG g C d (k+1) k) m (kD l b) b) (k+1):=λk=>by
  funext vs os
  show kG (cG g C d (k+1) k) (k+1) (dj d.D) m (kD l b) vs os=_;unfold kG;have:=yc _ _ hk hb;rw[show sD (kD l b) (dj d.D)=some (.e l b)from this]
 have hs:=anV hL he;obtain⟨e,vs',os'⟩:=y;cases e with
 |d l'=>
  obtain⟨rfl,hn⟩:=hn;obtain⟨k,⟨h1,h2⟩,h3⟩:=((hs.I hn.U).I (⟨1,λk hk=>hk⟩:kb λk=>1<=k)).U;obtain⟨j,rfl⟩:∃j,k=j+1:=⟨k-1,ab⟩
  refine⟨j+1+1,?_⟩;rw[ov,lI];refine eO (CM (sG g C d (j+1) (j+1) (j+1) (j+1+1) (bj _) ab) h1) ?_;rw[ov]at h2;simp only[gq];exact CP (λ_ _ _=>CM (sG g C d j (j+1) (j+1) (j+1+1) ab ab)) _ _ _ _ _ (bj _) h2
 |_=>obtain⟨k,h1⟩:=hs.U;refine⟨k+1,?_⟩;rw[ov,lI];refine eO (CM (sG g C d k k k (k+1) (bj _) ab) h1) ?_;simp only[af.D,Option.some.injEq];exact hn
def bw.anY(hk:((dj d.D).map fT.D).Nodup)(hb:fT.d ps a b∈dj d.D):bw g C d m (cF a) (.q []::vs) os (.b,vs,os):=by refine⟨1,?_⟩;show(kG (cG g C d 1 0) 1 (dj d.D) m (cF a) _ os).D=_;unfold kG;have:=yc _ _ hk hb;rw[show sD (cF a) (dj d.D)=some (.d ps a b)from this];rfl
def bw.abR(hk:((dj d.D).map fT.D).Nodup)(hb:fT.d ps a b∈dj d.D)(hL:cJ g C d L){x:aa}{rest:List aa}
  (he:(oA (ay g C d L) m ps a b x vs os).D=some y)(hn:match y with | (.b,vs',os')=>bw g C d m (cF a) (.q rest::vs') os' r |y=>y=r):bw g C d m (cF a) (.q (x::rest)::vs) os r:=by
 have ov:∀k items vs os,(cG g C d (k+1) (k+1)).d m (cF a) (.q items::vs) os=sC (oA (cG g C d (k+1) k) m ps a b) items vs os:=λk items vs os=>by show kG (cG g C d (k+1) k) (k+1) (dj d.D) m (cF a) _ os=_;unfold kG;have:=yc _ _ hk hb;rw[show sD (cF a) (dj d.D)=some (.d ps a b)from this]
 have hs:=anW hL he;obtain⟨e,vs',os'⟩:=y;cases e with
 |b=>
  obtain⟨k,⟨h1,h2⟩,h3⟩:=((hs.I hn.U).I (⟨1,λk hk=>hk⟩:kb λk=>1<=k)).U;obtain⟨j,rfl⟩:∃j,k=j+1:=⟨k-1,ab⟩
  refine⟨j+1+1,?_⟩;rw[ov,sC];refine eO (CN (sG g C d (j+1) (j+1) (j+1) (j+1+1) (bj _) ab) h1) ?_;rw[ov]at h2;exact JL (λ_ _ _ _=>CN (sG g C d j (j+1) (j+1) (j+1+1) ab ab)) _ _ _ _ h2
 |_=>obtain⟨k,h1⟩:=hs.U;refine⟨k+1,?_⟩;rw[ov,sC];refine eO (CN (sG g C d k k k (k+1) (bj _) ab) h1) ?_;simp only[af.D,Option.some.injEq];exact hn
def yg(P:Program)(g:eH)(f:FuncId)(args:List aa)(ao:List aj)(out:aC):Prop:=
 (∀o∈ao,o.V=0)->∀(Z:Nat->Prop) β w(bk:Array Value),cY g.a g.b Z (a_ ao) β w->aF g.a w (aY Z (a_ ao) β) args (bW g.a (a_ ao) β) bk.toList->xZ P f bk w (kE g.a g.b Z ao β w out)
def Af(h:∀args ao out,(M args ao).D=some out->yg P g f args ao out):ck g.a g.b P f M:=h
def PN(h:ck g.a g.b P f M)(e:(M args ao).D=some out):yg P g f args ao out:=h args ao out e
def FP(hT:cH P g.a)(hC:∀f,ck g.a g.b P f (C f))(hI:sF P g)(ok:iB P g f d)(h0:d.c=0)(hL:cJ g C d L)
  (he:(aI (ay g C d L) d.b d.a args ao).D=some out):yg P g f args ao out:=by
 obtain⟨c,hc⟩:=Option.isSome_iff_exists.1 ok.h;have ou:d.D=c:=by unfold dQ.D;rw[hc];rfl
 have gI:=ok.e;rw[h0]at gI;have hk:∃k,(aI (cG g C d (k+1) (k+1)) d.b d.a args ao).D=some out:=by
  unfold aI at he;rw[hc]at he;simp only at he;obtain⟨x,h1,h2⟩:=cm he;obtain⟨k,a1,a2⟩:=((nI hL c _ _ x h1).I (⟨1,λk hk=>hk⟩:kb λk=>1<=k)).U;obtain⟨j,rfl⟩:∃j,k=j+1:=⟨k-1,ab⟩
  refine⟨j,?_⟩;unfold aI;rw[hc];simp only;rw[rl (L:=L)]at a1⊢;exact eO a1 h2
 obtain⟨k,hk⟩:=hk;exact abr (E:=cG g C d (k+1) (k+1)) hT hC (hI _ hC d (k+1) (k+1)) ok.c ok.b hc (ou▸gI) d.b (λa b=>aI (cG g C d (k+1) (k+1)) d.b d.a a b)
  (λargs ao out h=>⟨oE ok.a c ao.length (λb hb=>ou▸hb),h⟩) args ao out hk
def anZ:cJ g C d (λ_ _ _ _=>.d):=λm key vs os r h=>by simp[af.D]at h
end
end
end Go.AH
namespace Go.AH
open Go Go.RowKit
section
variable{P:Program}{g:eH}{C:FuncId->aq}{d:dQ}{f:FuncId}{L:Nat->Nat->List aa->List aj->af (aU×List aa×List aj)}
def aK:dk:=λ_ _ _ _=>.d
def cv:cJ g C d aK:=anZ
def dN(hT:cH P g.a)(hI:sF P g)(hC:∀f,ck g.a g.b P f (C f))(ok:iB P g f d)(h0:d.c=0)(hL:cJ g C d L){M:aq}
  (h:∀args ao out,(M args ao).D=some out->(aI (ay g C d L) d.b d.a args ao).D=some out):ck g.a g.b P f M:=
 Af λargs ao out ho=>FP hT hC hI ok h0 hL (h args ao out ho)
end
def fU{α:Type}(a:α):(af.g a).D=some a:=rfl
def dA{α:Type}(b:Bool)(t e:af α):(af.c b t e).D=if b=true then t.D else e.D:=by cases b<;>rfl
def ep{n:Int}(h1: -9223372036854775808<=n)(h2:n<=9223372036854775807):IntKind.i64.wrap n=n:=by simp[IntKind.wrap,IntKind.bits,IntKind.signed];omega
def eu{α:Type}{b:Bool}{t e:af α}{r:Option α}(h1:b=true->t.D=r)(h2:b=false->e.D=r):(af.c b t e).D=r:=by
 cases b with
 |true=>exact h1 rfl
 |false=>exact h2 rfl
end Go.AH
namespace Go.AH
open Go Go.RowKit
section
variable{P:Program}{g:eH}{C:FuncId->aq}{d:dQ}{f:FuncId}{L:Nat->Nat->List aa->List aj->af (aU×List aa×List aj)}
def aQ{T:TypeId->bz}{G:Nat->aa}:∀k,ck T G P k (aL [] k):=abq [] aB
def aA{T:TypeId->bz}{G:Nat->aa}{f:FuncId}{M:aq}{l:List (FuncId×aq)}(h:ck T G P f M)(hl:∀k,ck T G P k (aL l k)):∀k,ck T G P k (aL ((f,M)::l) k):=λk=>by
 unfold aL;split
 ·rename_i hb;rw[aV hb];exact h
 ·exact hl k
def cq(d:dQ)(i:Nat):Code:=match(dj d.D)[i]? with |some (.c b)=>b |_=>.skip
def bw.D(ok:iB P g f d)(i:Nat){key:Nat}(hb:(dj d.D)[i]? =some (.c (cq d i)))(gr:cF (cq d i)=key)(hL:cJ g C d L){m:Nat}{vs:List aa}{os:List aj}{y r:aU×List aa×List aj}
  (he:(cB (ay g C d L) m key (cq d i) vs os).D=some y)(hn:Ae g C d m key y r):bw g C d m key vs os r:=by
 subst gr;exact bw.anX ok.a (eg hb) hL he hn
end
def gi(p:Int->Bool):List UInt8->Nat
 | []=>0
 |c::r=>(match p c.toNat with |true=>gi p r+1 |false=>0)
def JS(p:Int->Bool):∀s,gi p s<=s.length
 | []=>bj _
 |c::r=>by unfold gi;have:=JS p r;split<;>simp<;>omega
end Go.AH
namespace Go.AH
open Go Go.RowKit
def dK{α:Type}(t:af α)(Φ:α->Prop):Prop:=∃y,t.D=some y/\Φ y
section
variable{α β:Type}{Φ:α->Prop}
def dK.I{a:α}(h:Φ a):dK (.g a) Φ:=⟨a,rfl,h⟩
def dK.D{b:Bool}{t e:af α}(h1:b=true->dK t Φ)(h2:b=false->dK e Φ):dK (.c b t e) Φ:=by
 cases b with
 |true=>exact h1 rfl
 |false=>exact h2 rfl
def dK.U{t t':af α}(h:t.D=t'.D)(h':dK t' Φ):dK t Φ:=by obtain⟨y,h1,h2⟩:=h';exact⟨y,h.trans h1,h2⟩
end
section
variable{P:Program}{g:eH}{C:FuncId->aq}{d:dQ}{f:FuncId}{L:Nat->Nat->List aa->List aj->af (aU×List aa×List aj)}
def bw.I{α:Type}{Q:α->Prop}{sh:α->aU×List aa×List aj}(ok:iB P g f d)(i:Nat){key:Nat}(hb:(dj d.D)[i]? =some (.c (cq d i)))(gr:cF (cq d i)=key)(hL:cJ g C d L){m:Nat}{vs:List aa}{os:List aj}
  (he:dK (cB (ay g C d L) m key (cq d i) vs os) λy=>∃r,Q r/\Ae g C d m key y (sh r)):∃r,Q r/\bw g C d m key vs os (sh r):=by
 obtain⟨y,h1,r,h2,h3⟩:=he;exact⟨r,h2,bw.D ok i hb gr hL h1 h3⟩
end
end Go.AH
namespace Go.AH
open Go Go.RowKit
def bc(p:aa->Bool):List aa->Nat->Option Nat
 | [],_=>none
 |v::r,i=>(match p v with |true=>some i |false=>bc p r (i+1))
def CT{p:aa->Bool}:∀(vs:List aa)(i j:Nat),bc p vs i=some j->i<=j/\j<i+vs.length
 | [],i,j,h=>by simp[bc]at h
 |v::r,i,j,h=>by
  unfold bc at h;split at h
  ·simp at h;subst h;simp
  ·have:=CT r (i+1) j h;simp;omega
def fH(o:Option Nat):Int:=match o with |some i=>i |none=> -1
def JT(p:aa->Bool)(vs:List aa)(st:Int->List aa)(n:Int):af (aU×List aa×List aj):=
 .c (decide (n<(vs.length:Int))) (.c (decide (0<=n) &&decide (n<(vs.length:Int))) (.c (p (vs.getD n.toNat .m)) (.g (.c,[.c .i64 n],[])) (.g (.b,st (IntKind.i64.wrap (n+1)),[]))) .d) (.g (.a 0,[.m],[]))
def PO(o:Option Nat):aU×List aa×List aj:=match o with |some i=>(.c,[.c .i64 (i:Int)],[]) |none=>(.a 0,[.m],[])
def CU(o:Option Nat):af (aU×List aa×List aj):=.c o.isSome (.g (.c,[.c .i64 ((o.getD 0:Nat):Int)],[])) (.g (.a 0,[.m],[]))
def FQ(o:Option Nat):(CU o).D=some (PO o):=by cases o<;>rfl
def bP:Nat:=9223372036854775807
section
variable{P:Program}{g:eH}{C:FuncId->aq}{d:dQ}{f:FuncId}{L:Nat->Nat->List aa->List aj->af (aU×List aa×List aj)}
def FR(ok:iB P g f d)(i:Nat){key:Nat}(hb:(dj d.D)[i]? =some (.c (cq d i)))(gr:cF (cq d i)=key)(hL:cJ g C d L){m:Nat}(st:Int->List aa)(p:aa->Bool)(vs:List aa)(hlen:vs.length<=bP)
  (bg:∀n:Int,(cB (ay g C d L) m key (cq d i) (st n) []).D=(JT p vs st n).D):∀(k n:Nat),n+k=vs.length->bw g C d m key (st n) [] (PO (bc p (vs.drop n) n))
 |0,n,h=>by
  refine bw.D ok i hb gr hL ((bg n).trans ?_) (y:=(.a 0,[.m],[])) ?_
  ·unfold JT;rw[dA,if_neg (by simp;omega)];rfl
  ·rw[tz ab];rfl
 |k+1,n,h=>by
  have hn:n<vs.length:=ab;have hd:vs.drop n=vs[n]::vs.drop (n+1):=oY hn;have hg:vs.getD n .m=vs[n]:=by rw[dD,cV hn];rfl
  have nq:bP=9223372036854775807:=rfl;cases hp:p vs[n]with
  |true=>
   refine bw.D ok i hb gr hL ((bg n).trans ?_) (y:=(.c,[.c .i64 n],[])) ?_
   ·unfold JT;rw[dA,if_pos (by simpa using hn),dA,if_pos (by simpa using hn),dA,dE,hg,hp];rfl
   ·rw[hd,bc,hp];rfl
  |false=>
   refine bw.D ok i hb gr hL ((bg n).trans ?_) (y:=(.b,st ((n+1:Nat):Int),[])) ?_
   ·unfold JT;rw[dA,if_pos (by simpa using hn),dA,if_pos (by simpa using hn),dA,dE,hg,hp,ep ab ab];rfl
   ·have:=FR ok i hb gr hL st p vs hlen bg k (n+1) ab;rw[hd,bc,hp];exact this
end
end Go.AH
namespace Go.AH
def sH{g:eH}{C:FuncId->aq}{d:dQ}(n:Nat):cJ g C d (cG g C d n n).d:=λ_ _ _ _ _ h=>⟨n,h⟩
end Go.AH
namespace Go.AH
open Go Go.RowKit
def cR{α β:Type}(f:α->aa->β⊕α):List aa->α->β⊕α
 | [],a=>.inr a
 |v::r,a=>(match f a v with | .inl b=>.inl b | .inr a'=>cR f r a')
def ml{α β γ:Type}(shB:β->γ)(shE:α->γ):β⊕α->γ
 | .inl b=>shB b
 | .inr a=>shE a
def py(y:aU×List aa×List aj):Bool:=match y.1 with | .b=>false |_=>true
def JU{α β:Type}(g:eH)(C:FuncId->aq)(d:dQ)(L:dk)(m key i:Nat)(st:Nat->α->List aa)(ob:Nat->α->List aj)(shB:β->aU×List aa×List aj)(Inv:Nat->α->Prop)(n:Nat)(a:α):β⊕α->Prop
 | .inl b=>(cB (ay g C d L) m key (cq d i) (st n a) (ob n a)).D=some (shB b)/\py (shB b)=true
 | .inr a'=>(cB (ay g C d L) m key (cq d i) (st n a) (ob n a)).D=some (.b,st (n+1) a',ob (n+1) a')/\Inv (n+1) a'
section
variable{P:Program}{g:eH}{C:FuncId->aq}{d:dQ}{f:FuncId}{L:Nat->Nat->List aa->List aj->af (aU×List aa×List aj)}
def PQ{m key:Nat}{y:aU×List aa×List aj}(h:py y=true):Ae g C d m key y y:=by obtain⟨e,x⟩:=y;cases e<;>first |rfl |cases h
def abS{α β:Type}(ok:iB P g f d)(i:Nat){key:Nat}(hb:(dj d.D)[i]? =some (.c (cq d i)))(gr:cF (cq d i)=key)(hL:cJ g C d L){m:Nat}(st:Nat->α->List aa)(ob:Nat->α->List aj)(F:α->aa->β⊕α)(shB:β->aU×List aa×List aj)(shE:α->aU×List aa×List aj)(Inv:Nat->α->Prop)(l:List aa)
  (bg:∀n a,n<l.length->Inv n a->JU g C d L m key i st ob shB Inv n a (F a (l.getD n .m)))(hex:∀a,Inv l.length a->(cB (ay g C d L) m key (cq d i) (st l.length a) (ob l.length a)).D=some (shE a)/\py (shE a)=true):
  ∀(k n:Nat)(a:α),n+k=l.length->Inv n a->bw g C d m key (st n a) (ob n a) (ml shB shE (cR F (l.drop n) a))
 |0,n,a,h,hI=>by obtain rfl:n=l.length:=ab;rw[tz (bj _)];exact bw.D ok i hb gr hL (hex a hI).1 (PQ (hex a hI).2)
 |k+1,n,a,h,hI=>by
  have hn:n<l.length:=ab;have hd:l.drop n=l[n]::l.drop (n+1):=oY hn;have hg:l.getD n .m=l[n]:=by rw[dD,cV hn];rfl
  have hs:=bg n a hn hI;rw[hg]at hs;rw[hd,cR];cases hF:F a l[n]with
  |inl b=>rw[hF]at hs;exact bw.D ok i hb gr hL hs.1 (PQ hs.2)
  |inr a'=>rw[hF]at hs;exact bw.D ok i hb gr hL hs.1 (abS ok i hb gr hL st ob F shB shE Inv l bg hex k (n+1) a' ab hs.2)
def pz{α β:Type}(ok:iB P g f d)(i:Nat){key:Nat}(hb:(dj d.D)[i]? =some (.c (cq d i)))(gr:cF (cq d i)=key)(hL:cJ g C d L){m:Nat}(st:Nat->α->List aa)(ob:Nat->α->List aj)(F:α->aa->β⊕α)(shB:β->aU×List aa×List aj)(shE:α->aU×List aa×List aj)(Inv:Nat->α->Prop)(l:List aa)(a:α)(hI:Inv 0 a)
  (bg:∀n a,n<l.length->Inv n a->JU g C d L m key i st ob shB Inv n a (F a (l.getD n .m)))(hex:∀a,Inv l.length a->(cB (ay g C d L) m key (cq d i) (st l.length a) (ob l.length a)).D=some (shE a)/\py (shE a)=true):
  bw g C d m key (st 0 a) (ob 0 a) (ml shB shE (cR F l a)):=by
 have:=abS ok i hb gr hL st ob F shB shE Inv l bg hex l.length 0 a ab hI;rwa[oc]at this
end
def jk{n:Nat}{l:List aa}(h:n<l.length):(decide ((0:Int)<=(n:Int)) &&decide ((n:Int)<(l.length:Int)))=true:=by rw[aD ab,aD ab];rfl
def mm{n:Nat}{l:List aa}(h:n<l.length):decide ((n:Int)<(l.length:Int))=true:=aD ab
def mP(l:List aa):decide (((l.length:Nat):Int)<(l.length:Int))=false:=ly ab
def mn{n:Nat}{l:List aa}(h:n<l.length)(hb:l.length<=bP):IntKind.i64.wrap ((n:Int)+1)=((n+1:Nat):Int):=by have nq:bP=9223372036854775807:=rfl;rw[ep ab ab];omega
end Go.AH
namespace Go.AH
open Go Go.RowKit
def vW{α β:Type}(shB:β->aU×List aa×List aj)(shN:α->List aa×List aj)(Inv:α->Prop)(t:af (aU×List aa×List aj)):β⊕α->Prop
 | .inl b=>t.D=some (shB b)/\py (shB b)=true
 | .inr a'=>t.D=some (.b,(shN a').1,(shN a').2)/\Inv a'
section
variable{α β:Type}{shB:β->aU×List aa×List aj}{shN:α->List aa×List aj}{Inv:α->Prop}{t t':af (aU×List aa×List aj)}
def jl{b:Bool}{x y:β⊕α}(h1:b=true->vW shB shN Inv t x)(h2:b=false->vW shB shN Inv t' y):vW shB shN Inv (.c b t t') (bif b then x else y):=by
 cases b with
 |true=>exact h1 rfl
 |false=>exact h2 rfl
def dB{b:Bool}{x:β⊕α}(h:b=true)(h1:vW shB shN Inv t x):vW shB shN Inv (.c b t t') x:=by subst h;exact h1
def ke{y:aU×List aa×List aj}{x:β}(h:y=shB x)(hn:py (shB x)=true):vW shB shN Inv (.g y) (.inl x):=⟨by rw[h];rfl,hn⟩
def jI{y:aU×List aa×List aj}{a:α}(h:y=(.b,(shN a).1,(shN a).2))(hI:Inv a):vW shB shN Inv (.g y) (.inr a):=⟨by rw[h];rfl,hI⟩
def oF{g:eH}{C:FuncId->aq}{d:dQ}{L:dk}{m key i:Nat}{st:Nat->α->List aa}{ob:Nat->α->List aj}{I:Nat->α->Prop}{n:Nat}{a:α}{x:β⊕α}
  (he:(cB (ay g C d L) m key (cq d i) (st n a) (ob n a)).D=t.D)(h:vW shB (λa=>(st (n+1) a,ob (n+1) a)) (I (n+1)) t x):JU g C d L m key i st ob shB I n a x:=by
 cases x with
 |inl b=>exact⟨he.trans h.1,h.2⟩
 |inr a'=>exact⟨he.trans h.1,h.2⟩
end
def mQ{b:Bool}(h:(!b)=false):b=true:=by cases b<;>first |rfl |cases h
def nJ{b:Bool}(h:(!b)=true):b=false:=by cases b<;>first |rfl |cases h
def cf(p:aa->aa->Bool):List aa->List aa->Bool
 | [],[]=>true
 |v::r,w::q=>p v w &&cf p r q
 |_,_=>false
def kf(p:aa->aa->Bool)(q:List aa)(v:aa):Unit⊕List aa:=bif !p v (q.headD .m)then .inl ()else .inr q.tail
def CV(p:aa->aa->Bool):∀l q:List aa,l.length=q.length->cR (kf p) l q=bif cf p l q then .inr []else .inl ()
 | [],[],_=>rfl
 |v::r,w::q,h=>by
  rw[cR,cf,kf,List.headD_cons,List.tail_cons];cases p v w with
  |true=>exact CV p r q (by simpa using h)
  |false=>rfl
 | [],w::q,h=>by cases h
 |v::r,[],h=>by cases h
def FT(l:List aa)(n:Nat):(l.drop n).headD .m=l.getD n .m:=by rw[List.headD_eq_head?_getD,List.head?_drop,dD]
def ug{p:aa->Bool}{l:List aa}(h:l.all p=true){n:Nat}(hn:n<l.length):p (l.getD n .m)=true:=by rw[dD,cV hn];exact List.all_eq_true.1 h _ (mE hn)
def iS(p:aa->Bool)(l:List aa):Bool:=decide (l.length<=bP) &&l.all p
def sI{p:aa->Bool}{l:List aa}:iS p l=true↔l.length<=bP/\l.all p=true:=by unfold iS;rw[au,bC]
def FU(l q:List aa):((l.length:Int) !=(q.length:Int))= !Nat.beq l.length q.length:=by
 cases h:Nat.beq l.length q.length with
 |true=>rw[aV h];simp
 |false=>
  have:l.length≠q.length:=λe=>by rw[e,gq]at h;cases h
  simp;omega
def CW{p:aa->aa->Bool}:∀{l q:List aa},cf p l q=true->l.length=q.length
 | [],[],_=>rfl
 |v::r,w::q,h=>by rw[cf,au]at h;simp[CW h.2]
 | [],w::q,h=>by cases h
 |v::r,[],h=>by cases h
def bK{α β:Type}{f:α->β}{b:Bool}{t e:af β}{x y:α}(h1:b=true->t.D=some (f x))(h2:b=false->e.D=some (f y)):(af.c b t e).D=some (f (bif b then x else y)):=by
 cases b with
 |true=>exact h1 rfl
 |false=>exact h2 rfl
def aZ{β:Type}{b:Bool}{t e:af β}{r:Option β}(h:b=true)(h1:t.D=r):(af.c b t e).D=r:=by subst h;exact h1
def kK{β:Type}{b:Bool}{t e:af β}{r:Option β}(h:b=false)(h1:e.D=r):(af.c b t e).D=r:=by subst h;exact h1
end Go.AH
namespace Go.AH
open Go Go.RowKit
section
variable{P:Program}{g:eH}{C:FuncId->aq}{d:dQ}{f:FuncId}{L:Nat->Nat->List aa->List aj->af (aU×List aa×List aj)}
def an0(k:Nat)(draw:Bool)(hd:iP)(ops:List Oper)(base:Nat)(l:List Nat)(s:bu):c8 (cG g C d k k) draw hd ops base l s=c8 (ay g C d L) draw hd ops base l s:=by rw[rl (L:=L)];exact FJ (E:=ay g C d L) draw hd ops base l s
def abT{E:bD}{m:Nat}{c:Code}{s:bu}(h:∀a b,c≠ .seq a b):sB E m c s=(cy E m c s).U λy=>.g (y.1,y.2,none):=by cases c<;>first |rfl |exact absurd rfl (h _ _)
def an1(hL:cJ g C d L):∀(c:Code)(m:Nat)(s:bu)(x:aU×bu×Option (FuncId×List aa)),(sB (ay g C d L) m c s).D=some x->kb λk=>(sB (cG g C d k k) m c s).D=some x:=by
 intro c;induction c with
 |seq a b _ ihb=>
  intro m s x he;rw[sB]at he;cases hd:CK a with
  |none=>
   rw[hd]at he;obtain⟨y,h1,h2⟩:=cm he;have i1:=nI hL a m s y h1;obtain⟨ex,s1⟩:=y;cases ex with
   |b=>exact(i1.I (ihb m s1 x h2)).D λk ⟨a1,a2⟩=>by rw[sB,hd];exact eO a1 a2
   |_=>exact i1.D λk a1=>by rw[sB,hd];exact eO a1 h2
  |some q=>
   obtain⟨id,ops,t⟩:=q;rw[hd]at he;obtain⟨y,h1,h2⟩:=cm he;have i1:∀k,(c8 (cG g C d k k) false gb ops.toList s.c (List.range (ops.toList.length-1)) s).D=some y:=λk=>by rw[an0 (L:=L)];exact h1
   cases y with
   |b _ _=>simp[af.D]at h2
   |a s1=>
    simp only at h2;have hk:∀k,(cG g C d k k).c=(ay g C d L).c:=λk=>by rw[rl (L:=L)]
    split at h2
    ·rename_i g' eN YK;split at h2
     ·rename_i HY;obtain⟨z,h3,h4⟩:=cm h2;refine(nI hL b _ _ z h3).D λk a1=> ?_;rw[sB,hd];refine eO (i1 k) ?_;simp only[hk k,YK,HY];exact eO a1 h4
     ·simp[af.D]at h2
    ·simp[af.D]at h2
 |_=>intro m s x he;rw[abT (by intro a b h;cases h)]at he;obtain⟨y,h1,h2⟩:=cm he;refine(nI hL _ m s y h1).D λk a1=> ?_;rw[abT (by intro a b h;cases h)];exact eO a1 h2
def an2(hT:cH P g.a)(hC:∀f,ck g.a g.b P f (C f))(hI:sF P g){CD:FuncId->Option aa->aq}(Iv:∀g',(∃rv args ao out,(CD g' rv args ao).D=some out)->Aa g.a g.b P g' (CD g'))(ok:iB P g f d)(h1:d.c=1)(hL:cJ g C d L){args:List aa}{ao:List aj}{out:aC}
  (he:(qg (ay g C d L) CD d.b d.a args ao).D=some out):yg P g f args ao out:=by
 obtain⟨c,hc⟩:=Option.isSome_iff_exists.1 ok.h;have ou:d.D=c:=by unfold dQ.D;rw[hc];rfl
 have gI:=ok.e;rw[h1]at gI;have hk:∃k,(qg (cG g C d (k+1) (k+1)) CD d.b d.a args ao).D=some out:=by
  unfold qg at he;rw[hc]at he;simp only at he;obtain⟨x,h1,h2⟩:=cm he;obtain⟨k,a1,a2⟩:=((an1 hL c _ _ x h1).I (⟨1,λk hk=>hk⟩:kb λk=>1<=k)).U;obtain⟨j,rfl⟩:∃j,k=j+1:=⟨k-1,ab⟩
  refine⟨j,?_⟩;unfold qg;rw[hc];simp only;rw[rl (L:=L)]at a1⊢;exact eO a1 h2
 obtain⟨k,hk⟩:=hk;exact abz (E:=cG g C d (k+1) (k+1)) hT hC (hI _ hC d (k+1) (k+1)) Iv ok.c ok.b hc (ou▸gI) d.b (λa b=>qg (cG g C d (k+1) (k+1)) CD d.b d.a a b)
  (λargs ao out h=>⟨λm=>oE ok.a c m (λb hb=>ou▸hb),h⟩) args ao out hk
noncomputable def yh(g:eH)(C:FuncId->aq)(k:FuncId)(d:dQ):FuncId->Option aa->aq:=λf rv=>match Nat.beq f k with
 |true=>λargs ao=>FG (cG g C d 1 1) d.a rv args ao
 |false=>λ_ _=>.d
def PR(hT:cH P g.a)(hI:sF P g)(hC:∀f,ck g.a g.b P f (C f)){k:FuncId}(ok:iB P g k d)(h2:d.c=2):∀g',(∃rv args ao out,(yh g C k d g' rv args ao).D=some out)->Aa g.a g.b P g' (yh g C k d g'):=by
 intro g' hx;have hg:g'=k:=by
  obtain⟨rv,args,ao,out,he⟩:=hx;unfold yh at he;cases hb:Nat.beq g' k with
  |true=>exact aV hb
  |false=>rw[hb]at he;simp[af.D]at he
 subst hg;obtain⟨c,hc⟩:=Option.isSome_iff_exists.1 ok.h;have ou:d.D=c:=by unfold dQ.D;rw[hc];rfl
 have gI:=ok.e;rw[h2]at gI;simp only at gI;rw[ou]at gI;have e:yh g C g' d g'=λrv args ao=>FG (cG g C d 1 1) d.a rv args ao:=by
  funext rv
  unfold yh;rw[gq]
 rw[e];exact abw (E:=cG g C d 1 1) hT hC (hI _ hC d 1 1) ok.c ok.b hc gI _ (λrv args ao out h=>⟨oE ok.a c ao.length (λb hb=>ou▸hb),h⟩)
end
end Go.AH
namespace Go.AH
open Go Go.RowKit
def nK(v v':aa):Prop:=∀(T:TypeId->bz) w O R x,ax T w O v R x->ax T w O v' R x
def uh(l l':List aa):Prop:=∀(T:TypeId->bz) w O R x,aF T w O l R x->aF T w O l' R x
def nK.I(v:aa):nK v v:=λ_ _ _ _ _ h=>h
def nK.D(t:TypeId):nK .w (.d t []):=λ_ _ _ _ _ h=>⟨none,0,h,bj _,.inl rfl⟩
def uh.U:uh [] []:=λ_ _ _ _ _ h=>h
def uh.I{v v':aa}{l l':List aa}(h:nK v v')(hl:uh l l'):uh (v::l) (v'::l'):=λT w O R x=>λ⟨y,r,e,h1,h2⟩=>⟨y,r,e,h T w O R y h1,hl T w O R r h2⟩
def uh.D(v:aa){l l':List aa}(hl:uh l l'):uh (v::l) (v::l'):=.I (.I v) hl
def nK.V{l l':List aa}(h:uh l l'):nK (.u l) (.u l'):=λT w O R x=>λ⟨a,e,h1⟩=>⟨a,e,h T w O R _ h1⟩
def nK.U{l l':List aa}(h:uh l l'):nK (.q l) (.q l'):=λT w O R x=>λ⟨a,e,h1⟩=>⟨a,e,h T w O R _ h1⟩
inductive CX:aC->aC->Prop
 |b (o:aC):CX o o
 |a {v v':aa} (os:List aj) (h:nK v v'):CX (.a v os) (.a v' os)
def an3{T:TypeId->bz}{G:Nat->aa}{Z:Nat->Prop}{ao:List aj}{β:Nat->bd}{w:World}{o o':aC}(h:CX o o'){e:Ending}{w':World}(he:kE T G Z ao β w o e w'):kE T G Z ao β w o' e w':=by
 cases h with
 |b=>exact he
 |a os hw=>
  cases e with
  |returned x=>obtain⟨v,mG,β',h1,h2⟩:=he;cases h1;exact⟨_,_,_,rfl,h2.c,h2.a,hw _ _ _ _ _ h2.b⟩
  |panicked chain=>obtain⟨v,mG,β',x,h1,_⟩:=he;cases h1
  |outgrown=>exact he
def abU{P:Program}{f:FuncId}{args:Array Value}{w:World}{R R':Ending->World->Prop}(h:xZ P f args w R)(hr:∀e w',R e w'->R' e w'):xZ P f args w R':=by
 rcases h with⟨h1,h2⟩ | ⟨x,w',h1,h2⟩
 ·exact .inl ⟨h1,h2.mono hr⟩
 ·exact .inr ⟨x,w',h1,hr _ _ h2⟩
def PS{P:Program}{g:eH}{f:FuncId}{args:List aa}{ao:List aj}{o o':aC}(h:yg P g f args ao o)(hw:CX o o'):yg P g f args ao o':=λhg Z β w bk cx ha=>abU (h hg Z β w bk cx ha) λ_ _ he=>an3 hw he
def dO(t:af aC)(o:aC):Prop:=∃o0,t.D=some o0/\CX o0 o
section
variable{α:Type}{f:α->aC}{b:Bool}{t e:af aC}{x y:α}{o:aC}
def dO.V{t':af aC}(h:t.D=t'.D)(h':dO t' o):dO t o:=by obtain⟨o0,h1,h2⟩:=h';exact⟨o0,h.trans h1,h2⟩
def dO.I(h1:b=true->dO t (f x))(h2:b=false->dO e (f y)):dO (.c b t e) (f (bif b then x else y)):=by
 cases b with
 |true=>exact h1 rfl
 |false=>exact h2 rfl
def dO.kL(h1:b=true->dO t o)(h2:b=false->dO e o):dO (.c b t e) o:=by
 cases b with
 |true=>exact h1 rfl
 |false=>exact h2 rfl
def dO.D(h:b=true)(h1:dO t o):dO (.c b t e) o:=by subst h;exact h1
def dO.JV(h:b=false)(h1:dO e o):dO (.c b t e) o:=by subst h;exact h1
def dO.nL{o0:aC}(h:CX o0 o):dO (.g o0) o:=⟨o0,rfl,h⟩
def dO.U(h:t.D=some o):dO t o:=⟨o,h,.b o⟩
end
def yi{P:Program}{g:eH}{C:FuncId->aq}{d:dQ}{f:FuncId}{L:dk}(hT:cH P g.a)(hI:sF P g)(hC:∀f,ck g.a g.b P f (C f))(ok:iB P g f d)(h0:d.c=0)(hL:cJ g C d L){M:aq}
  (h:∀args ao out,(M args ao).D=some out->dO (aI (ay g C d L) d.b d.a args ao) out):ck g.a g.b P f M:=
 Af λargs ao out ho=>by obtain⟨o0,h1,h2⟩:=h args ao out ho;exact PS (FP hT hC hI ok h0 hL h1) h2
end Go.AH
namespace Go.AH
open Go Go.RowKit
def eB(g:eH)(C:FuncId->aq)(d:dQ)(m key:Nat)(t:af (aU×List aa×List aj))(R:aU×List aa×List aj):Prop:=∃y,t.D=some y/\Ae g C d m key y R
section
variable{P:Program}{g:eH}{C:FuncId->aq}{d:dQ}{fid:FuncId}{L:Nat->Nat->List aa->List aj->af (aU×List aa×List aj)}{m key:Nat}{t e:af (aU×List aa×List aj)}{R y:aU×List aa×List aj}{α:Type}{f:α->aU×List aa×List aj}{b:Bool}{u v:α}
def eB.U(h1:b=true->eB g C d m key t (f u))(h2:b=false->eB g C d m key e (f v)):eB g C d m key (.c b t e) (f (bif b then u else v)):=by
 cases b with
 |true=>exact h1 rfl
 |false=>exact h2 rfl
def eB.D(h:b=true)(h1:eB g C d m key t R):eB g C d m key (.c b t e) R:=by subst h;exact h1
def eB.sJ(h:b=false)(h1:eB g C d m key e R):eB g C d m key (.c b t e) R:=by subst h;exact h1
def eB.I(h:y=R)(hn:py R=true):eB g C d m key (.g y) R:=⟨y,rfl,by subst h;exact PQ hn⟩
def eB.mR{vs:List aa}{os:List aj}(h:bw g C d m key vs os R):eB g C d m key (.g (.b,vs,os)) R:=⟨_,rfl,h⟩
def eB.V(ok:iB P g fid d)(i:Nat)(hb:(dj d.D)[i]? =some (.c (cq d i)))(gr:cF (cq d i)=key)(hL:cJ g C d L){vs:List aa}{os:List aj}(he:(cB (ay g C d L) m key (cq d i) vs os).D=t.D)(h:eB g C d m key t R):bw g C d m key vs os R:=by obtain⟨y,h1,h2⟩:=h;exact bw.D ok i hb gr hL (he.trans h1) h2
end
end Go.AH
namespace Go.AH
open Go Go.RowKit
def PT{P:Program}{g:eH}{C:FuncId->aq}{d:dQ}{f:FuncId}{L:dk}(hT:cH P g.a)(hI:sF P g)(hC:∀f,ck g.a g.b P f (C f)){CD:FuncId->Option aa->aq}(Iv:∀g',(∃rv args ao out,(CD g' rv args ao).D=some out)->Aa g.a g.b P g' (CD g'))(ok:iB P g f d)(h1:d.c=1)(hL:cJ g C d L){M:aq}
  (h:∀args ao out,(M args ao).D=some out->dO (qg (ay g C d L) CD d.b d.a args ao) out):ck g.a g.b P f M:=
 Af λargs ao out ho=>by obtain⟨o0,h1',h2⟩:=h args ao out ho;exact PS (an2 hT hC hI Iv ok h1 hL h1') h2
end Go.AH
namespace Go.AH
open Go Go.RowKit
def JW(p:aa->Bool)(vs:List aa)(st:Int->List aa)(os:List aj)(n:Int):af (aU×List aa×List aj):=
 .c (decide (n<(vs.length:Int))) (.c (decide (0<=n) &&decide (n<(vs.length:Int))) (.c (p (vs.getD n.toNat .m)) (.g (.c,[.c .i64 n],os)) (.g (.b,st (IntKind.i64.wrap (n+1)),os))) .d) (.g (.a 0,[.m],os))
def abV(os:List aj)(o:Option Nat):aU×List aa×List aj:=match o with |some i=>(.c,[.c .i64 (i:Int)],os) |none=>(.a 0,[.m],os)
def FV(os:List aj)(o:Option Nat):af (aU×List aa×List aj):=.c o.isSome (.g (.c,[.c .i64 ((o.getD 0:Nat):Int)],os)) (.g (.a 0,[.m],os))
def JX(os:List aj)(o:Option Nat):(FV os o).D=some (abV os o):=by cases o<;>rfl
section
variable{P:Program}{g:eH}{C:FuncId->aq}{d:dQ}{f:FuncId}{L:Nat->Nat->List aa->List aj->af (aU×List aa×List aj)}
def FW(ok:iB P g f d)(i:Nat){key:Nat}(hb:(dj d.D)[i]? =some (.c (cq d i)))(gr:cF (cq d i)=key)(hL:cJ g C d L){m:Nat}(st:Int->List aa)(os:List aj)(p:aa->Bool)(vs:List aa)(hlen:vs.length<=bP)
  (bg:∀n:Int,(cB (ay g C d L) m key (cq d i) (st n) os).D=(JW p vs st os n).D):∀(k n:Nat),n+k=vs.length->bw g C d m key (st n) os (abV os (bc p (vs.drop n) n))
 |0,n,h=>by
  refine bw.D ok i hb gr hL ((bg n).trans ?_) (y:=(.a 0,[.m],os)) ?_
  ·unfold JW;rw[dA,if_neg (by simp;omega)];rfl
  ·rw[tz ab];rfl
 |k+1,n,h=>by
  have hn:n<vs.length:=ab;have hd:vs.drop n=vs[n]::vs.drop (n+1):=oY hn;have hg:vs.getD n .m=vs[n]:=by rw[dD,cV hn];rfl
  have nq:bP=9223372036854775807:=rfl;cases hp:p vs[n]with
  |true=>
   refine bw.D ok i hb gr hL ((bg n).trans ?_) (y:=(.c,[.c .i64 n],os)) ?_
   ·unfold JW;rw[dA,if_pos (by simpa using hn),dA,if_pos (by simpa using hn),dA,dE,hg,hp];rfl
   ·rw[hd,bc,hp];rfl
  |false=>
   refine bw.D ok i hb gr hL ((bg n).trans ?_) (y:=(.b,st ((n+1:Nat):Int),os)) ?_
   ·unfold JW;rw[dA,if_pos (by simpa using hn),dA,if_pos (by simpa using hn),dA,dE,hg,hp,ep ab ab];rfl
   ·have:=FW ok i hb gr hL st os p vs hlen bg k (n+1) ab;rw[hd,bc,hp];exact this
end
end Go.AH
namespace Go.AH
open Go Go.RowKit
noncomputable section
variable{x:Operand}{t e:TypeId}{y:Operand}{b off n cap:Nat}{kd:IntKind}{fs:List (Nat×Nat×Bool)}{ag:Bool}{q:Nat}{u:Value}{arr:Array Value}{s:bu}{ex:aU}{vs:List Value}{d:Nat}{v:Value}{ty:TypeId}{g:FuncId}{R:Ending->World->Prop}
section
variable{P:Program}{T:TypeId->bz}{w w':World}{a:Act}{ops:Array Oper}{k:Nat}{Q:Exit->Act->World->Prop}{j:Nat}{l:List Nat}{o:Oper}
def yj{x:Value}(hj:ops[j]? =some o)(hw:jH ops o a)(bm:(execOp a.eval o).run P w=.ok (.value x) w')
  (bL:∀f,o.about P w a.eval=some f->Fence.wide.fn f)(h:wpOpsIn Fence.wide k P ops Q l (a.put o.dst x) w'):wpOpsIn Fence.wide k P ops Q (j::l) a w:=by
 unfold wpOpsIn;rw[hj];simp only;unfold jH at hw;rw[if_pos hw];refine⟨bL,?_⟩;have nw:(o.semAt Fence.wide.round a.eval).run P w=.ok (.value x) w':=bm;rw[nw];exact h
def abW(hj:ops[j]? =some o)(hw:jH ops o a)(bm:(execOp a.eval o).run P w=.ok .skip w')
  (h:wpOpsIn Fence.wide k P ops Q l (a.put o.dst undef) w'):wpOpsIn Fence.wide k P ops Q (j::l) a w:=by
 unfold wpOpsIn;rw[hj];simp only;unfold jH at hw;rw[if_pos hw];refine⟨λf _=>trivial,?_⟩;have nw:(o.semAt Fence.wide.round a.eval).run P w=.ok .skip w':=bm;rw[nw];exact h
def an4(hT:cH P T){i:Int}(hj:ops[j]? =some o)(ho:o.op=.indexAddr t x y)(hw:jH ops o a)(hd:(T t).c=.a e)(he:(T e).D=true)
  (hx:a.eval x=.slice (some ⟨b,off,none⟩) n cap)(hy:a.eval y=.int kd i)(h0:0<=i)(h1:i<n)
  (h:wpOpsIn Fence.wide k P ops Q l (a.put o.dst (.pointer (some ⟨b,off+i.toNat*(T e).a,none⟩))) w):wpOpsIn Fence.wide k P ops Q (j::l) a w:=by
 obtain⟨hu,_⟩:=(hT.D (jh hd aB)).I hd;refine yj hj hw ?_ (λf _=>trivial) h;simp[execOp,ho,hx,hy,Cy hu (hT.D he) ⟨b,off,none⟩ n cap kd i h0 h1,i_]
def an5(hT:cH P T){f:Nat}(hj:ops[j]? =some o)(ho:o.op=.fieldAddr t x f)(hw:jH ops o a)(hd:(T t).c=.f fs)(hf:fs[f]? =some (off,n,ag))
  (hx:a.eval x=.pointer (some ⟨b,q,none⟩))(h:wpOpsIn Fence.wide k P ops Q l (a.put o.dst (.pointer (some ⟨b,q+off,none⟩))) w):wpOpsIn Fence.wide k P ops Q (j::l) a w:=by
 have row:=hT.D (jh hd aB);obtain⟨gs,hu,rfl,_,rT,_⟩:=row.zV hd;rw[fX]at hf;cases hq:gs.toList[f]? with
 |none=>rw[hq]at hf;cases hf
 |some fl=>
  rw[hq]at hf;simp only[jt,Option.some.injEq,Prod.mk.injEq]at hf;obtain⟨rfl,rfl,rfl⟩:=hf;have hq':gs[f]? =some fl:=by simpa using hq
  obtain⟨h1,h2,h3⟩:=rT fl (eg hq);refine yj hj hw ?_ (λf _=>trivial) h;simp[execOp,ho,hx,Instr.fieldAt,dR hu,hq',Instr.sureAddr,fieldPlace,Fs h1,h3,i_]
def an6(hT:cH P T)(hj:ops[j]? =some o)(ho:o.op=.load t x)(hw:jH ops o a)(ht:(T t).D=true)(np:(T t).b=false)
  (hx:a.eval x=.pointer (some ⟨b,q,none⟩))(hc:w.cell? ⟨b,q,none⟩=some u)(h:wpOpsIn Fence.wide k P ops Q l (a.put o.dst u) w):wpOpsIn Fence.wide k P ops Q (j::l) a w:=by
 refine yj hj hw ?_ (λf _=>trivial) h;have hl:dH w b q [u]:=λi v hi=>by
  cases i with
  |zero=>simp at hi;subst hi;exact hc
  |succ i=>simp at hi
 have:=(Fq (P:=P) hT ht hl).2 np u [] rfl;simp[execOp,ho,hx,this]
def an7(hT:cH P T){cs:List Value}(hj:ops[j]? =some o)(ho:o.op=.load t x)(hw:jH ops o a)(ht:(T t).D=true)(np:(T t).b=true)
  (hx:a.eval x=.pointer (some ⟨b,q,none⟩))(hc:dH w b q cs)(hl:cs.length=(T t).a)(h:wpOpsIn Fence.wide k P ops Q l (a.put o.dst (.agg cs.toArray)) w):wpOpsIn Fence.wide k P ops Q (j::l) a w:=by
 refine yj hj hw ?_ (λf _=>trivial) h;have:=(Fq (P:=P) hT ht hc).1 np ab;rw[<-hl,List.take_length]at this;simp[execOp,ho,hx,this]
structure yk(w:World)(b q:Nat)(u:Value)(w':World):Prop where
 g:w'.os=w.os
 h:w'.tape=w.tape
 i:w'.output=w.output
 a:w'.heap.size=w.heap.size
 f:∀c,c≠b->w'.heap[c]? =w.heap[c]?
 d:∀{arr e},w.heap[b]? =some (.cells arr e (0,0))->w'.heap[b]? =some (.cells (arr.toList.set q u).toArray e (0,0))
def an8(hT:cH P T)(hj:ops[j]? =some o)(ho:o.op=.store t x y)(hw:jH ops o a)(ht:(T t).D=true)(hs:(T t).a=1)
  (hx:a.eval x=.pointer (some ⟨b,q,none⟩))(hy:a.eval y=u)(hu:u.cells= #[u])(BH:u.oneCell'=true)(hb:w.heap[b]? =some (.cells arr e (0,0)))(hq:q<arr.size)
  (h:∀w',yk w b q u w'->wpOpsIn Fence.wide k P ops Q l (a.put o.dst undef) w'):wpOpsIn Fence.wide k P ops Q (j::l) a w:=by
 have bg:=HL P b q e [u] 0 arr w hb (by simp;omega) (λv hv=>by simp at hv;subst hv;exact BH);simp only[lW]at bg;have row:=hT.D ht;refine abW (w':=w.setRow b (arr.toList.take q++ [u]++arr.toList.drop (q+ [u].length)).toArray) hj hw ?_ (h _ ⟨rfl,rfl,rfl,aB,λc hc=>Es _ _ _ _ hc,fun {aLb e2} eT=> ?_⟩)
 ·simp only[execOp,ho,hx,hy,Instr.storeAt,Instr.sureAddr,storeVar,eh,ju,fD,row.D,hu];rw[if_neg (by rw[hs];simp),bg];rfl
 ·rw[hb]at eT;simp only[Option.some.injEq,Obj.cells.injEq]at eT;obtain⟨rfl,rfl,_⟩:=eT;rw[Et _ _ _ _ _ _ hb];congr 3
  rw[List.set_eq_take_append_cons_drop,if_pos (by simpa using hq)];simp
end
section
variable{E:bD}{P:Program}{Z:Nat->Prop}{n lo m:Nat}{d0:fR}{β:Nat->bd}{w w':World}{a:Act}{K:(Nat->aj)->(Nat->bd)->World->Prop}{B:Nat}
def vX(E:bD)(m:Nat)(kin qX:List Nat)(c:Code)(vs:List aa)(os:List aj):af (aU×List aa×List aj):=
 (cy E m c (dx kin vs os)).U λx=>.g (x.1,jS qX m x.2,gK qX m x.2)
def abX:aU->Exit->Prop
 | .b,.normal=>True
 | .a i,.exit j=>i=j
 | .d i,.goto j=>i=j
 | .c,.ret=>True
 |_,_=>False
def z8.D{e:Exit}(h:z8 E Z s β w ex e)(hn:∀v,ex≠ .e v):abX ex e:=by cases ex<;>cases e<;>first |exact h |exact absurd rfl (hn _)
def an9{F:Fence}{kn:Nat}{kin qX:List Nat}{c:Code}(hT:cH P E.a)(hC:∀g,ck E.a E.b P g (E.f g))(hI:ud E P)(hF:F=Fence.wide\/∃l,F=Fence.wide.inRound l)(hc:dI E.e E.g n c=true)(j5:F≠Fence.wide\/d0.a=false->jG c=true)(hl:kF E m c)
 {vs vs':List aa}{os os':List aj}(he:(vX E m kin qX c vs os).D=some (ex,vs',os'))(aLc:∀v,ex≠ .e v)(hK:mh m B K)(dT:lo<=B)(r:bA E Z n lo d0 (dx kin vs os) β a w)(k:K (a_ os) β w){Q:Exit->Act->World->Prop}
  (hQ:∀e a' w' β',bA E Z n lo d0 (dx qX vs' os') β' a' w'->K (a_ os') β' w'->abX ex e->Q e a' w'):c.wpIn F kn P Q a w:=by
 unfold vX at he;obtain⟨x,h1,h2⟩:=cm he;refine tC (nF hT hC hI c d0 F kn m B K hF hK dT _ x β a w hc j5 hl h1 r (sy _ _ _) k) (λe a' w' hp=> ?_);obtain⟨β',r',hf',k',hx⟩:=hp;obtain⟨e1,s1⟩:=x;simp only[af.D,Option.some.injEq,Prod.mk.injEq]at h2;obtain⟨rfl,rfl,rfl⟩:=h2;exact hQ e a' w' _ (sx _ r') (sz (s:=s1) hK _ k') (hx.D aLc)
def bA.abY{s':bu}(r:bA E Z n lo d0 s β a w)(ho:s'.a=s.a)(hs:∀t,s'.b t=s.b t\/s'.b t=.m):bA E Z n lo d0 s' β a w:=by
 refine⟨ho▸r.f,λt=> ?_,r.p,ho▸r.z⟩;rcases hs t with h |h
 ·rw[h,ho];exact r.m t
 ·rw[h];exact trivial
def bA.an_{Z':Nat->Prop}(r:bA E Z n lo d0 s β a w)(h:∀b,Z' b->Z b):bA E Z' n lo d0 s β a w:=by have ho:∀b,aY Z' s.a β b->aY Z s.a β b:=λb hb=>hb.imp (h b) id;have hk:cz w w (aY Z s.a β) (aY Z' s.a β):=cz.D ho;exact⟨⟨λi=>(r.f.c i).I hk (λ_ _ h=>h) (λ_=>rfl),λi ha hw hn hz=>r.f.p i ha hw hn (ho _ hz),r.f.d,λb hb=>r.f.m b (h b hb),λi mi hz=>r.f.f i mi (h _ hz),λg=>dU.D hk (r.f.n g)⟩,λt=>ax.D hk _ _ _ _ (λ_ _ h=>h) (r.m t),r.p,r.z⟩
end
def abZ{a:Act}(h:d<a.tmps.size)(x:Value):(a.put (some d) x).tmps.getD d undef=x:=by rw[FB a (λt ht=>by cases ht;exact h),if_pos rfl]
def rn{a:Act}{t:Nat}(h:d<a.tmps.size)(bL:d≠t)(x:Value):(a.put (some d) x).tmps.getD t undef=a.tmps.getD t undef:=by rw[FB a (λt ht=>by cases ht;exact h),if_neg (λe=>bL (by injection e))]
def rp(k:Nat):Code->Option (Array Oper)
 | .region id ops _=>(match Nat.beq id k with |true=>some ops |false=>none)
 | .seq a b=>(match rp k a with |some o=>some o |none=>rp k b)
 | .cond _ a b=>(match rp k a with |some o=>some o |none=>rp k b)
 | .block _ b=>rp k b
 | .loop b=>rp k b
 |_=>none
def qh{P:Program}{f:FuncId}{fn:Func}{c:Code}(hf:P.funcs[f]? =some fn)(hn:(fn.name== "runtime.NumGoroutine")=false)(hb:fn.body=some c):∀args w,(callFunc f args).run P w=.ok (.enter f args) w:=λargs w=>by
 have h1:fn.name≠ "runtime.NumGoroutine" :=by simpa using hn
 simp[callFunc,hf,h1,hb]
abbrev lJ:=List (Nat×Value)
def mS:lJ->Nat->Option Value
 | [],_=>none
 | (k,v)::r,t=>(match Nat.beq k t with |true=>some v |false=>mS r t)
structure bM(N:Nat)(l:lJ)(a:Act):Prop where
 c:a.tmps.size=N
 f:a.defers=[]
 b:∀t v,mS l t=some v->a.tmps.getD t undef=v
def eW(l:lJ):Operand->Option Value
 | .tmp t=>mS l t
 | .const v=>some v
 |_=>none
section
variable{P:Program}{T:TypeId->bz}{w w':World}{a:Act}{N:Nat}{l l':lJ}
def bM.I(h:bM N l a)(hx:eW l x=some v):a.eval x=v:=by
 cases x with
 |tmp t=>exact h.b t v hx
 |const u=>injection hx with hx
 |_=>cases hx
def bM.U(h:bM N l a)(hd:d<N)(v:Value):bM N ((d,v)::l) (a.put (some d) v):=by
 refine⟨by rw[fS];exact h.c,by rw[jT];exact h.f,λt u ht=> ?_⟩;unfold mS at ht;split at ht
 ·rename_i hb;rw[<-iZ hb];injection ht with ht;rw[<-ht];exact abZ (by rw[h.c];exact hd) _
 ·rename_i hb;rw[rn (by rw[h.c];exact hd) (λe=>by subst e;rw[gq]at hb;cases hb)];exact h.b t u ht
def bM.V(h:bM N l a):bM N [] a:=⟨h.c,h.f,λt v ht=>by cases ht⟩
def bM.D(h:bM N l a){t:Nat}(hv:mS l t=some v)(h':bM N l' a):bM N ((t,v)::l') a:=⟨h.c,h.f,λu x hu=>by
 unfold mS at hu;split at hu
 ·rename_i hb;injection hu with hu;rw[<-iZ hb,<-hu];exact h.b t v hv
 ·exact h'.b u x hu⟩
structure PU(ops:Array Oper)(j:Nat)(o:Oper)(op:Op)(d:Option Nat)(g:Nat×Bool):Prop where
 c:ops[j]? =some o
 a:o.op=op
 b:o.dst=d
 e:o.guard=some g
structure gB(ops:Array Oper)(j:Nat)(o:Oper)(op:Op)(d:Option Nat):Prop where
 b:ops[j]? =some o
 a:o.op=op
 c:o.dst=d
 e:o.guard=none
def aM(R:Nat->Array Oper)(O:Nat->Nat->Oper)(k j:Nat)(op:Op)(d:Option Nat)(h1:(R k)[j]? =some (O k j):=by kernel_rfl)(h2:(O k j).op=op:=by kernel_rfl)(h3:(O k j).dst=d:=by kernel_rfl)(h4:(O k j).guard=none:=by kernel_rfl):gB (R k) j (O k j) op d:=⟨h1,h2,h3,h4⟩
def tM(R:Nat->Array Oper)(O:Nat->Nat->Oper)(k j:Nat)(op:Op)(d:Option Nat)(g:Nat×Bool)(h1:(R k)[j]? =some (O k j):=by kernel_rfl)(h2:(O k j).op=op:=by kernel_rfl)(h3:(O k j).dst=d:=by kernel_rfl)(h4:(O k j).guard=some g:=by kernel_rfl):PU (R k) j (O k j) op d g:=⟨h1,h2,h3,h4⟩
variable{ops:Array Oper}{k:Nat}{Q:Exit->Act->World->Prop}{j:Nat}{ls:List Nat}{o:Oper}
def lK{op:Op}{x:Value}(ho:gB ops j o op (some d))(hs:bM N l a)(hd:d<N)(bm:(execOp a.eval o).run P w=.ok (.value x) w')
  (h:∀a',bM N ((d,x)::l) a'->wpOpsIn Fence.wide k P ops Q ls a' w'):wpOpsIn Fence.wide k P ops Q (j::ls) a w:=by
 refine yj ho.b (jV ho.e) bm (λf _=>trivial) ?_;rw[ho.c];exact h _ (hs.U hd x)
def df{t:Operand}(ho:gB ops j o (.move t) (some d))(hs:bM N l a)(hd:d<N)(hv:eW l t=some v)
  (h:∀a',bM N ((d,v)::l) a'->wpOpsIn Fence.wide k P ops Q ls a' w):wpOpsIn Fence.wide k P ops Q (j::ls) a w:=
 lK ho hs hd (by simp[execOp,ho.a,hs.I hv]) h
def iT{t:Operand}(ho:gB ops j o (.assign t) (some d))(hs:bM N l a)(hd:d<N)(hv:eW l t=some v)
  (h:∀a',bM N ((d,v)::l) a'->wpOpsIn Fence.wide k P ops Q ls a' w):wpOpsIn Fence.wide k P ops Q (j::ls) a w:=
 lK ho hs hd (by simp[execOp,ho.a,hs.I hv]) h
def an'{t:Operand}{p:Addr}(ho:gB ops j o (.nilCheck t) (some d))(hs:bM N l a)(hd:d<N)(hv:eW l t=some (.pointer (some p)))
  (h:∀a',bM N ((d,.pointer (some p))::l) a'->wpOpsIn Fence.wide k P ops Q ls a' w):wpOpsIn Fence.wide k P ops Q (j::ls) a w:=
 lK ho hs hd (by simp[execOp,ho.a,hs.I hv]) h
def ru(hT:cH P T){i:Int}(ho:gB ops j o (.indexAddr t x y) (some d))(hs:bM N l a)(hN:d<N)(hd:(T t).c=.a e)(he:(T e).D=true)
  (hx:eW l x=some (.slice (some ⟨b,off,none⟩) n cap))(hy:eW l y=some (.int kd i))(h0:0<=i)(h1:i<n)
  (h:∀a',bM N ((d,.pointer (some ⟨b,off+i.toNat*(T e).a,none⟩))::l) a'->wpOpsIn Fence.wide k P ops Q ls a' w):wpOpsIn Fence.wide k P ops Q (j::ls) a w:=by
 refine an4 hT ho.b ho.a (jV ho.e) hd he (hs.I hx) (hs.I hy) h0 h1 ?_;rw[ho.c];exact h _ (hs.U hN _)
def CY(hT:cH P T){f:Nat}(ho:gB ops j o (.fieldAddr t x f) (some d))(hs:bM N l a)(hN:d<N)(hd:(T t).c=.f fs)(hf:fs[f]? =some (off,n,ag))
  (hx:eW l x=some (.pointer (some ⟨b,q,none⟩)))(h:∀a',bM N ((d,.pointer (some ⟨b,q+off,none⟩))::l) a'->wpOpsIn Fence.wide k P ops Q ls a' w):wpOpsIn Fence.wide k P ops Q (j::ls) a w:=by
 refine an5 hT ho.b ho.a (jV ho.e) hd hf (hs.I hx) ?_;rw[ho.c];exact h _ (hs.U hN _)
def sK(hT:cH P T)(ho:gB ops j o (.load t x) (some d))(hs:bM N l a)(hN:d<N)(ht:(T t).D=true)(np:(T t).b=false)
  (hx:eW l x=some (.pointer (some ⟨b,q,none⟩)))(hc:w.cell? ⟨b,q,none⟩=some u)(h:∀a',bM N ((d,u)::l) a'->wpOpsIn Fence.wide k P ops Q ls a' w):wpOpsIn Fence.wide k P ops Q (j::ls) a w:=by
 refine an6 hT ho.b ho.a (jV ho.e) ht np (hs.I hx) hc ?_;rw[ho.c];exact h _ (hs.U hN _)
def ui(hT:cH P T)(ho:gB ops j o (.store t x y) none)(hs:bM N l a)(ht:(T t).D=true)(bE:(T t).a=1)
  (hx:eW l x=some (.pointer (some ⟨b,q,none⟩)))(hy:eW l y=some u)(hu:u.cells= #[u])(BH:u.oneCell'=true)(hb:w.heap[b]? =some (.cells arr e (0,0)))(hq:q<arr.size)
  (h:∀w',yk w b q u w'->wpOpsIn Fence.wide k P ops Q ls a w'):wpOpsIn Fence.wide k P ops Q (j::ls) a w:=by
 refine an8 hT ho.b ho.a (jV ho.e) ht bE (hs.I hx) (hs.I hy) hu BH hb hq (λw' hp=> ?_);rw[ho.c];exact h w' hp
def CZ{m n:Int}(ho:gB ops j o (.binOp .lss t x y ty) (some d))(hs:bM N l a)(hd:d<N)(hx:eW l x=some (.int kd m))(hy:eW l y=some (.int kd n))
  (h:∀a',bM N ((d,.bool (decide (m<n)))::l) a'->wpOpsIn Fence.wide k P ops Q ls a' w):wpOpsIn Fence.wide k P ops Q (j::ls) a w:=
 lK ho hs hd (by simp[execOp,ho.a,hs.I hx,hs.I hy,xS,binOp,Op.intCmp]) h
def yl{m n:Int}(ho:gB ops j o (.binOp .add t x y ty) (some d))(hs:bM N l a)(hd:d<N)(hx:eW l x=some (.int .i64 m))(hy:eW l y=some (.int .i64 n))
  (h:∀a',bM N ((d,.int .i64 (IntKind.i64.wrap (m+n)))::l) a'->wpOpsIn Fence.wide k P ops Q ls a' w):wpOpsIn Fence.wide k P ops Q (j::ls) a w:=
 lK ho hs hd (by simp[execOp,ho.a,hs.I hx,hs.I hy,xS,binOp,Op.intArith]) h
def Ag(hT:cH P T){c:Nat}{ad:Option Addr}(ho:gB ops j o (.call ⟨.builtin .len,#[x],#[t]⟩) (some d))(hs:bM N l a)(hN:d<N)(hd:(T t).c=.a e)(hx:eW l x=some (.slice ad n c))
  (h:∀a',bM N ((d,.int .i64 n)::l) a'->wpOpsIn Fence.wide k P ops Q ls a' w):wpOpsIn Fence.wide k P ops Q (j::ls) a w:=by
 obtain⟨hu,_⟩:=(hT.D (jh hd aB)).I hd;exact lK ho hs hN (by simp[execOp,ho.a,hs.I hx,resolve,invoke,builtin,Builtin.len_,dR hu,goInt]) h
def JY:List Value->Nat->lJ
 | [],_=> []
 |v::r,i=>(i,v)::JY r (i+1)
def ab0:∀(vs:List Value)(i t:Nat)(v:Value),mS (JY vs i) t=some v->∃j,t=i+j/\vs[j]? =some v
 | [],i,t,v,h=>by cases h
 |u::r,i,t,v,h=>by
  unfold JY mS at h;split at h
  ·rename_i hb;injection h with h;exact⟨0,(iZ hb).symm,by rw[h];rfl⟩
  ·obtain⟨j,h1,h2⟩:=ab0 r (i+1) t v h;exact⟨j+1,ab,h2⟩
def FX(hl:vs.length<=N):bM N (JY vs 0) {tmps:=vs.toArray++Array.replicate (N-vs.toArray.size) undef,defers:=[]}:=by
 refine⟨by simp;omega,rfl,λt v h=> ?_⟩;obtain⟨j,rfl,h2⟩:=ab0 vs 0 t v h;have hj:j<vs.length:=by
  rcases od j vs.length with h3 |h3
  ·exact h3
  ·rw[kY h3]at h2;cases h2
 simp only[gF,fh];rw[Ez (by simpa using hj)];simp[h2]
def oG{xs ts:Array _}{d:Option Nat}(ho:gB ops j o (.call ⟨.value (.func g),xs,ts⟩) d)(hs:bM N l a)
  (xB:∀args w,(callFunc g args).run P w=.ok (.enter g args) w)(hv:xs.map a.eval=vs.toArray)(hy:CallsIn Fence.wide (k-1) P g vs.toArray w R)
  (h:∀e w',R e w'->∃v,e=.returned v/\wpOpsIn Fence.wide k P ops Q ls (a.put d v) w'):wpOpsIn Fence.wide k P ops Q (j::ls) a w:=by
 refine CQ ho.b ho.a rfl (jV ho.e) xB (hv▸hy) (λe w' he=> ?_);rw[ho.c];exact h e w' he
def aoa{f:Operand}{xs:Array Operand}{ts:Array TypeId}{eN vs:Array Value}{d:Option Nat}(ho:gB ops j o (.call ⟨.value f,xs,ts⟩) d)(hs:bM N l a)(hf:eW l f=some (.func (.func g) #[] eN))
  (xB:∀args w,(callFunc g args).run P w=.ok (.enter g args) w)(hv:xs.map a.eval=vs)(hy:CallsIn Fence.wide (k-1) P g (vs++eN) w R)
  (h:∀e w',R e w'->∃v,e=.returned v/\wpOpsIn Fence.wide k P ops Q ls (a.put d v) w'):wpOpsIn Fence.wide k P ops Q (j::ls) a w:=by
 unfold wpOpsIn;rw[ho.b];simp only;have hw:=jV (ops:=ops) (a:=a) ho.e;unfold jH at hw;rw[if_pos hw];refine⟨λf _=>trivial,?_⟩;have nw:(o.semAt Fence.wide.round a.eval).run P w=.ok (.enter g (vs++eN)) w:=by show(execOp a.eval o).run P w=_;rw[<-xB];have hx:=hs.I hf;simp[execOp,ho.a,resolve,hx,hv,Deferred.ofValue,invoke]
 rw[nw];refine⟨(λhd=>by cases hd),hy.mono λe w' he=> ?_⟩;obtain⟨v,rfl,h2⟩:=h e w' he;rw[<-ho.c]at h2;exact h2
end
end
end Go.AH
