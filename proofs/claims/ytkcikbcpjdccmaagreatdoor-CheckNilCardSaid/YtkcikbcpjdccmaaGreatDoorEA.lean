/- A part of the proof. -/
import Derived.WalkKit
import Derived.KernelRfl
import Derived.Lib.AppendStr
import Derived.Lib.UnsafeStr
import Derived.Lib.OthersKept
import Derived.Orders
import Derived.RangeFuncNested
import Derived.ScopeJumps
import Derived.Recover
import Derived.Lib.Bytealg
import Derived.RangeFuncBound
import Derived.OrdersIn
import Derived.Below
import Derived.WideShapes
import Derived.LaidMore
import Derived.Lib.LaidTab
import Derived.ProofKit
import Derived.ChangeSame
import Derived.Carry
import Derived.Deep.Slices
import Derived.Deep.Fields
import Derived.Deep.DeepHandedRow
import Derived.Deep.DeepWitnessRowRef
import Derived.LaidOnce
import Derived.Stop.Joined
set_option linter.all false
namespace Go.AH
open Go
noncomputable section
abbrev au:=@Bool.and_eq_true
abbrev aD:=@decide_eq_true
abbrev bj:=@Nat.le_refl
abbrev bC:=@decide_eq_true_eq
abbrev bS:=@Eq.trans
abbrev b8:=@Go.wpIn_seq
abbrev cT:=@Go.wpIn_region
abbrev cV:=@List.getElem?_eq_getElem
abbrev dh:=@congrArg
abbrev dD:=@List.getD_eq_getElem?_getD
abbrev dE:=@Int.toNat_natCast
abbrev dJ:=@Nat.lt_of_lt_of_le
abbrev dR:=@Go.run_underlying
abbrev dS:=@List.all_eq_true
abbrev eb:=@Nat.le_trans
abbrev eg:=@List.mem_of_getElem?
abbrev eh:=@Go.Sem.run_bind
abbrev eG:=@List.length_append
abbrev eM:=@List.length_cons
abbrev eS:=@of_decide_eq_false
abbrev ff:=@of_decide_eq_true
abbrev fh:=@Array.getD_eq_getD_getElem?
abbrev ft:=@Nat.le_of_ble_eq_true
abbrev fu:=@Array.getElem?_toList
abbrev fD:=@Go.Result.andThen_ok
abbrev fX:=@List.getElem?_map
abbrev fY:=@Go.wpIn_cond
abbrev gq:=@Nat.beq_refl
abbrev gF:=@Nat.zero_add
abbrev gR:=@List.length_map
abbrev ik:=@Nat.zero_le
abbrev iZ:=@Nat.eq_of_beq_eq_true
abbrev i_:=@Go.Addr.add_lit
abbrev ja:=@List.all_cons
abbrev jb:=@List.append_assoc
abbrev jc:=@List.mem_cons
abbrev jt:=@Option.map_some
abbrev ju:=@Go.Sem.run_pure
abbrev j1:=@Int.le_refl
abbrev kr:=@Bool.not_eq_true'
abbrev ku:=@Array.getElem?_eq_getElem
abbrev kx:=@List.getElem?_append_right
abbrev kY:=@List.getElem?_eq_none
abbrev kZ:=@Go.bodyPost_ret
abbrev lr:=@Option.getD_some
abbrev lu:=@Nat.succ_mul
abbrev lx:=@Go.wpIn_block
abbrev ly:=@decide_eq_false
abbrev lW:=@Nat.add_zero
abbrev lX:=@List.map_cons
abbrev lY:=@Ne.symm
abbrev lZ:=@List.getElem?_append_left
abbrev mE:=@List.getElem_mem
abbrev nh:=@Bool.or_eq_true
abbrev ni:=@Nat.sub_self
abbrev nj:=@Go.wpIn_skip
abbrev oc:=@List.drop_zero
abbrev od:=@Nat.lt_or_ge
abbrev oe:=@Go.World.putObj_heap_other
abbrev og:=@or_false
abbrev oX:=@List.mem_cons_of_mem
abbrev oY:=@List.drop_eq_getElem_cons
abbrev oZ:=@List.not_mem_nil
abbrev pL:=@List.take_of_length_le
abbrev pM:=@List.length_take
abbrev pN:=@Go.RowKit.Below.refl
abbrev qI:=@Nat.add_assoc
abbrev qJ:=@Bool.true_and
abbrev qK:=@List.mem_filter
abbrev qL:=@Go.wpIn_exit
abbrev qM:=@beq_iff_eq
abbrev qN:=@List.length_set
abbrev rP:=@List.getElem?_take
abbrev rQ:=@List.length_nil
abbrev rR:=@Int.natCast_nonneg
abbrev tu:=@Nat.add_mul
abbrev tv:=@and_true
abbrev tw:=@List.flatten_cons
abbrev tz:=@List.drop_of_length_le
abbrev tA:=@List.length_drop
abbrev tB:=@List.nodup_cons
abbrev tC:=@Go.wpIn_mono
abbrev tD:=@List.isEmpty_iff
abbrev tE:=@List.getElem?_toArray
abbrev u9:=@List.cons_append
abbrev u_:=@Bool.not_false
abbrev vc:=@List.filter_cons
abbrev vd:=@Go.wpIn_ret
abbrev ve:=@cond_false
abbrev vf:=@List.getElem?_set_ne
abbrev vg:=@List.length_replicate
abbrev xf:=@List.getElem?_drop
abbrev xg:=@List.eq_nil_of_length_eq_zero
abbrev xh:=@List.mem_append
abbrev xi:=@Bool.false_eq_true
abbrev xj:=@if_false
abbrev xk:=@Go.wpOpIn_mono
abbrev zi:=@Go.World.size_alloc
abbrev zj:=@List.nil_append
abbrev zk:=@List.append_nil
abbrev zl:=@Nat.mul_le_mul
abbrev zm:=@Bool.not_true
abbrev zn:=@Go.World.putObj_heap_same
abbrev zo:=@Go.wpIn_wide
abbrev zp:=@Nat.lt_succ_self
abbrev Bv:=@Option.map_none
abbrev Bw:=@Array.length_toList
abbrev Bx:=@List.mem_or_eq_of_mem_set
abbrev By:=@List.getElem?_set
abbrev BA:=@Array.getElem?_setIfInBounds
abbrev BB:=@decide_eq_false_iff_not
abbrev BC:=@Go.callsIn_of_wp
abbrev BD:=@Nat.not_lt_zero
abbrev BE:=@List.countP_cons
abbrev El:=@List.getElem?_cons_succ
abbrev Em:=@Nat.zero_mul
abbrev En:=@Go.run_sliceBound
abbrev Eo:=@Nat.mul_le_mul_right
abbrev Ep:=@Nat.blt_eq
abbrev Er:=@List.size_toArray
abbrev Es:=@Go.setRow_other
abbrev Et:=@Go.setRow_heap
abbrev Eu:=@List.map_nil
abbrev Ev:=@List.nodup_append
abbrev Ew:=@List.nodup_nil
abbrev Ex:=@List.filter_eq_self
abbrev Ey:=@Nat.ble_eq_true_of_le
abbrev Ez:=@Array.getElem?_append_left
abbrev EA:=@List.mem_singleton
abbrev EB:=@Array.getElem?_setIfInBounds_ne
abbrev EC:=@Array.getElem?_eq_none
abbrev ED:=@Int.add_zero
abbrev EE:=@List.getElem?_set_self
abbrev EF:=@Prod.ext
abbrev HI:=@Array.getElem?_push_lt
abbrev HJ:=@Array.foldl_toList
abbrev HK:=@List.map_map
abbrev HL:=@Go.run_storeCells_at
abbrev HM:=@Array.size_append
abbrev HN:=@List.map_toArray
abbrev HO:=@Bool.false_or
abbrev HP:=@Array.all_toList
abbrev HQ:=@Go.run_endRound
abbrev HR:=@Int.eq_ofNat_of_zero_le
abbrev HS:=@List.mem_cons_self
abbrev HT:=@decide_false
abbrev HU:=@List.tail_drop
abbrev MZ:=@List.drop_drop
abbrev M0:=@List.getElem?_cons_zero
abbrev M1:=@List.getElem?_of_mem
abbrev M3:=@List.map_append
abbrev M4:=@List.ext_getElem?
abbrev M5:=@List.replicate_succ
abbrev M6:=@Go.grownCap_ge
abbrev M7:=@List.take_left
abbrev M8:=@List.getElem_of_mem
abbrev M9:=@Nat.sub_zero
abbrev M_:=@List.mem_append_left
abbrev M':=@List.nodup_range
abbrev Na:=@List.getElem_inj
abbrev Nb:=@List.all_nil
abbrev Nc:=@Go.run_endLoop
abbrev Nd:=@Go.callsIn_of_wp_marks
abbrev Nf:=@Go.Calls.mono
abbrev Ng:=@Bool.false_and
abbrev Nh:=@Go.results_tmp
abbrev Ni:=@Nat.add_comm
abbrev Nj:=@Array.getElem?_setIfInBounds_self_of_lt
abbrev Nk:=@List.length_filter_le
abbrev Nl:=@Bool.and_true
abbrev Nn:=@Bool.not_not
abbrev No:=@List.set_append_right
abbrev Np:=@List.all_append
abbrev XH:=@List.getD_cons_zero
abbrev XI:=@List.getD_cons_succ
abbrev XJ:=@Array.toList_extract
abbrev XK:=@Go.run_sliceAt_slice
abbrev XL:=@List.take_set_of_le
abbrev XM:=@Array.toList_zipIdx
abbrev XN:=@List.drop_append
abbrev XO:=@List.take_append
abbrev XP:=@List.flatten_append
abbrev XQ:=@Nat.min_eq_left
abbrev XR:=@List.take_append_drop
abbrev XS:=@Go.grownCap_le_maxLen
abbrev XT:=@Go.size_zeroCells
abbrev XU:=@Go.growslice_fits
abbrev XV:=@Array.getElem?_modify
abbrev XW:=@List.map_congr_left
abbrev XX:=@List.filter_filter
abbrev XY:=@List.filter_congr
abbrev XZ:=@Nat.lt_trichotomy
abbrev X0:=@Go.Oper.semAt_eq
abbrev X1:=@List.mem_append_right
abbrev X2:=@Nat.add_sub_cancel_left
abbrev X3:=@Array.all_eq_true_iff_forall_mem
abbrev X4:=@Array.getElem?_replicate
abbrev X5:=@Option.bind_some
abbrev X6:=@List.take_add_one
abbrev ajh:=@List.getElem?_eq_some_iff
abbrev aji:=@Go.MapKept.run_getObj_map
abbrev ajj:=@Go.MapKept.run_setObj_map
abbrev ajk:=@List.append_eq_nil_iff
abbrev ajl:=@List.eq_nil_iff_forall_not_mem
abbrev ajm:=@List.length_mergeSort
abbrev ajn:=@List.getElem?_replicate
abbrev ajo:=@Nat.lt_of_succ_lt_succ
abbrev ajp:=@List.countP_le_length
def ae{α:Sort _}{a b:α}(h:a=b:=by kernel_rfl):a=b:=h
def ab{p:Prop}(h:p:=by omega):p:=h
def aB{p:Prop}(h:p:=by simp):p:=h
def av{p:Prop}(h:p:=by decide):p:=h
inductive af (α:Type) where
 |g (a:α) |c (b:Bool) (t e:af α) |d
def af.D{α:Type}:af α->Option α
 | .g a=>some a
 | .c b t e=>(match b with |true=>t.D |false=>e.D)
 | .d=>none
def af.U{α β:Type}:af α->(α->af β)->af β
 | .g a,f=>f a
 | .c b t e,f=>.c b (t.U f) (e.U f)
 | .d,_=>.d
def af.I{α:Type}(b:Bool)(t:af α):af α:=.c b t .d
inductive aa where
 |m
 |p (b:Bool) |c (k:IntKind) (n:Int) |h (s:List UInt8)
 |B |E |N |M |w
 |u (cs:List aa) |q (vs:List aa)
 |d (t:TypeId) (vs:List aa)
 |O (t:TypeId) (vs:List aa)
 |A (cs:List aa)
 |J (t:TypeId) (ks vs:List aa)
 |z (f:FuncId) (first eN:List aa)
 |C (t:TypeId) (v:aa)
 |e (i j:Nat) |y (t:TypeId) (i g n:Nat) |K (t:TypeId) (i g o n:Nat) |H (i g k j:Nat) |F (i:Nat) |G (t:TypeId) (i n:Nat) |L (i:Nat)
 deriving Inhabited
def aa.V:aa->List aa
 | .u cs=>cs
 |v=> [v]
def aa.b_:aa->Bool | .p b=>b |_=>false
def aa.I:aa->Int | .c _ n=>n |_=>0
def aa.bJ:aa->List UInt8 | .h s=>s |_=> []
def aa.U:aa->List aa | .d _ vs=>vs |_=> []
def aa.D(v:aa)(j:Nat):aa:=v.V.getD j .m
inductive bY where
 |d |a (k:IntKind) |b |c (e:TypeId) |f |g |h |i |j
 deriving DecidableEq,Inhabited
def bY.I:bY->Bool | .c _=>true |_=>false
inductive mK where
 |j |f (fs:List (Nat×Nat×Bool)) |a (e:TypeId) |d (n:Nat) (e:TypeId) |g (k e:TypeId) |l (e:TypeId) |b |c (k:IntKind) |i |m |h
 deriving DecidableEq,Inhabited
structure bz where
 a:Nat
 b:Bool
 e:Nat
 d:List bY
 c:mK
 f:Bool
 deriving DecidableEq,Inhabited
def IW:bz:=⟨0,false,0,[],.j,false⟩
def bz.D(T:bz):Bool:=match T.c with | .j=>false |_=>true
def lg:bY->aa->aa
 | .d,v=>.p v.b_
 | .a k,v=>.c k v.I
 | .b,v=>.h v.bJ
 | .c e,v=>.d e v.U
 |_,v=>v
def gJ:List bY->Nat->aa->List aa
 | [],_,_=> []
 |k::ks,j,v=>lg k (v.D j)::gJ ks (j+1) v
def dm(T:bz)(v:aa):aa:=match T.b with
 |true=>.u (gJ T.d 0 v)
 |false=>match T.d with
  | [k]=>lg k v
  |_=>v
def dX:bY->aa->Bool
 | .d,.p _=>true
 | .a k,.c k' _=>decide (k=k')
 | .b,.h _=>true
 | .c e,.d e' vs=>Nat.beq e e' ||vs.isEmpty
 | .c _,.w=>true
 | .f,v=>(match v with | .B | .A _=>true |_=>false)
 | .g,v=>(match v with | .E | .J .. =>true |_=>false)
 | .h,v=>(match v with | .N | .z .. =>true |_=>false)
 | .i,v=>(match v with | .M | .C .. =>true |_=>false)
 |_,_=>false
def bT:List bY->List aa->Bool
 | [],[]=>true
 |k::ks,v::vs=>dX k v &&bT ks vs
 |_,_=>false
def cA(T:bz)(v:aa):Bool:=match T.b with
 |true=>(match v with | .u cs=>bT T.d cs |_=>false)
 |false=>match T.d with
  | [k]=>dX k v
  |_=>false
def ph:bY->aa
 | .d=>.p false | .a k=>.c k 0 | .b=>.h [] | .c e=>.d e [] | .f=>.B | .g=>.E | .h=>.N | .i=>.M | .j=>.m
def gw(T:bz):aa:=match T.b with
 |true=>.u (T.d.map ph)
 |false=>match T.d with
  | [k]=>ph k
  |_=>.m
def E8:bY->aa
 | .c _=>.w
 |k=>ph k
def mc(T:bz):aa:=match T.b with
 |true=>.u (T.d.map E8)
 |false=>match T.d with
  | [k]=>E8 k
  |_=>.m
def mL(a:Bool)(cs:List aa):aa:=match a with
 |true=>.u cs
 |false=>cs.headD .m
inductive aj where
 |c
 |a (ro:Bool) (cs:List aa)
 |b (ro:Bool) (g:Nat) (t:TypeId) (vs:List aa)
 |d (ro:Bool) (t:TypeId) (ks vs:List aa)
 |f (ro:Bool) (s:List UInt8) (k:Nat)
 deriving Inhabited
structure bu where
 b:Nat->aa
 a:Nat->aj
 c:Nat
inductive aC where
 |a (v:aa) (ao:List aj)
 |b (v:aa) (ao:List aj)
abbrev al(v:aa)(o:List aj):af aC:=.g (.a v o)
abbrev dc(v:aa)(o:List aj):af aC:=.g (.b v o)
abbrev ah(n:Int):aa:=.c .i64 n
abbrev cg:Nat:=9223372036854775807
abbrev az(l:List aa):aj:=.a false l
inductive aU where
 |b |a (id:Nat) |d (l:Nat) |c |e (v:aa)
abbrev dk:=Nat->Nat->List aa->List aj->af (aU×List aa×List aj)
structure bD where
 a:TypeId->bz
 f:FuncId->List aa->List aj->af aC
 d:dk
 e:FuncId->List Bool
 b:Nat->aa
 c:Nat->List Nat
 h:Nat->List Nat
 i:FuncId->List aa->af (List aa):=λ_ _=>.d
 g:Nat->Bool:=λ_=>false
def bO{α:Type}(f:Nat->α)(i:Nat)(x:α):Nat->α:=λj=>(match Nat.beq j i with |true=>x |false=>f j)
def bU{α:Type}(f:Nat->α):List (Nat×α)->Nat->α
 | []=>f
 | (i,x)::r=>bU (bO f i x) r
mutual
def aa.dY(φ:aa->aa):aa->aa
 | .u cs=>.u (aa.nz φ cs)
 | .q cs=>.q (aa.nz φ cs)
 | .z f a b=>.z f (aa.nz φ a) (aa.nz φ b)
 | .C t v=>.C t (v.dY φ)
 | .e i j=>φ (.e i j)
 | .y t i g n=>φ (.y t i g n)
 | .K t i g o n=>φ (.K t i g o n)
 | .H i g k j=>φ (.H i g k j)
 | .F i=>φ (.F i)
 | .G t i n=>φ (.G t i n)
 | .L i=>φ (.L i)
 |v=>v
def aa.nz(φ:aa->aa):List aa->List aa
 | []=> []
 |v::vs=>v.dY φ::aa.nz φ vs
end
mutual
def aa.dP:aa->List Nat
 | .u cs=>aa.jD cs
 | .q cs=>aa.jD cs
 | .z _ a b=>aa.jD a++aa.jD b
 | .C _ v=>v.dP
 | .e i _=> [i] | .y _ i _ _=> [i] | .K _ i _ _ _=> [i] | .H i _ _ _=> [i] | .F i=> [i] | .G _ i _=> [i] | .L i=> [i]
 |_=> []
def aa.jD:List aa->List Nat
 | []=> []
 |v::vs=>v.dP++aa.jD vs
end
def aa.gx(v:aa):Bool:=v.dP.isEmpty
mutual
def aa.lE:aa->Bool
 | .m=>false
 | .u cs=>aa.sd cs
 | .q cs=>aa.sd cs
 | .z _ a b=>aa.sd a &&aa.sd b
 | .C _ v=>v.lE
 | .d _ _=>false
 | .O _ _=>false
 | .A _=>false
 | .J .. =>false
 |_=>true
def aa.sd:List aa->Bool
 | []=>true
 |v::vs=>v.lE &&aa.sd vs
end
def aa.Ck(v:aa):List Nat:=aa.rec (motive_1:=λ_=>List Nat) (motive_2:=λ_=>List Nat) [] (λ_=> []) (λ_ _=> []) (λ_=> []) [] [] [] [] [] (λ_ b=>b) (λ_ b=>b) (λ_ _ _=> []) (λ_ _ _=> []) (λ_ _=> []) (λ_ _ _ _ _=> []) (λ_ _ _ a b=>a++b) (λ_ _ b=>b) (λi _=> [i]) (λ_ i _ _=> [i]) (λ_ i _ _ _=> [i]) (λi _ _ _=> [i]) (λi=> [i]) (λ_ i _=> [i]) (λi=> [i]) [] (λ_ _ a b=>a++b) v
def aa.vI(l:List aa):List Nat:=aa.rec_1 (motive_1:=λ_=>List Nat) (motive_2:=λ_=>List Nat) [] (λ_=> []) (λ_ _=> []) (λ_=> []) [] [] [] [] [] (λ_ b=>b) (λ_ b=>b) (λ_ _ _=> []) (λ_ _ _=> []) (λ_ _=> []) (λ_ _ _ _ _=> []) (λ_ _ _ a b=>a++b) (λ_ _ b=>b) (λi _=> [i]) (λ_ i _ _=> [i]) (λ_ i _ _ _=> [i]) (λi _ _ _=> [i]) (λi=> [i]) (λ_ i _=> [i]) (λi=> [i]) [] (λ_ _ a b=>a++b) l
def aa.IX(φ:aa->aa)(v:aa):aa:=aa.rec (motive_1:=λ_=>aa) (motive_2:=λ_=>List aa) .m (λb=>.p b) (λk n=>.c k n) (λs=>.h s) .B .E .N .M .w (λ_ b=>.u b) (λ_ b=>.q b) (λt vs _=>.d t vs) (λt vs _=>.O t vs) (λcs _=>.A cs) (λt ks vs _ _=>.J t ks vs) (λf _ _ a b=>.z f a b) (λt _ b=>.C t b) (λi j=>φ (.e i j)) (λt i g n=>φ (.y t i g n)) (λt i g o n=>φ (.K t i g o n)) (λi g k j=>φ (.H i g k j)) (λi=>φ (.F i)) (λt i n=>φ (.G t i n)) (λi=>φ (.L i)) [] (λ_ _ a b=>a::b) v
def aa.IY(φ:aa->aa)(l:List aa):List aa:=aa.rec_1 (motive_1:=λ_=>aa) (motive_2:=λ_=>List aa) .m (λb=>.p b) (λk n=>.c k n) (λs=>.h s) .B .E .N .M .w (λ_ b=>.u b) (λ_ b=>.q b) (λt vs _=>.d t vs) (λt vs _=>.O t vs) (λcs _=>.A cs) (λt ks vs _ _=>.J t ks vs) (λf _ _ a b=>.z f a b) (λt _ b=>.C t b) (λi j=>φ (.e i j)) (λt i g n=>φ (.y t i g n)) (λt i g o n=>φ (.K t i g o n)) (λi g k j=>φ (.H i g k j)) (λi=>φ (.F i)) (λt i n=>φ (.G t i n)) (λi=>φ (.L i)) [] (λ_ _ a b=>a::b) l
def aa.ZI(v:aa):Bool:=aa.rec (motive_1:=λ_=>Bool) (motive_2:=λ_=>Bool) false (λ_=>true) (λ_ _=>true) (λ_=>true) true true true true true (λ_ b=>b) (λ_ b=>b) (λ_ _ _=>false) (λ_ _ _=>false) (λ_ _=>false) (λ_ _ _ _ _=>false) (λ_ _ _ a b=>a &&b) (λ_ _ b=>b) (λ_ _=>true) (λ_ _ _ _=>true) (λ_ _ _ _ _=>true) (λ_ _ _ _=>true) (λ_=>true) (λ_ _ _=>true) (λ_=>true) true (λ_ _ a b=>a &&b) v
def aa.IZ(l:List aa):Bool:=aa.rec_1 (motive_1:=λ_=>Bool) (motive_2:=λ_=>Bool) false (λ_=>true) (λ_ _=>true) (λ_=>true) true true true true true (λ_ b=>b) (λ_ b=>b) (λ_ _ _=>false) (λ_ _ _=>false) (λ_ _=>false) (λ_ _ _ _ _=>false) (λ_ _ _ a b=>a &&b) (λ_ _ b=>b) (λ_ _=>true) (λ_ _ _ _=>true) (λ_ _ _ _ _=>true) (λ_ _ _ _=>true) (λ_=>true) (λ_ _ _=>true) (λ_=>true) true (λ_ _ a b=>a &&b) l
mutual
@[simp] theorem aa.Oi:∀v:aa,v.Ck=v.dP
 | .u cs=>aa.tW cs
 | .q cs=>aa.tW cs
 | .z _ a b=>(dh (· ++aa.vI b) (aa.tW a)).trans (dh (aa.jD a++ ·) (aa.tW b))
 | .C _ v=>aa.Oi v
 | .m=>rfl | .p _=>rfl | .c _ _=>rfl | .h _=>rfl | .B=>rfl | .E=>rfl | .N=>rfl | .M=>rfl | .w=>rfl
 | .d _ _=>rfl | .O _ _=>rfl | .A _=>rfl | .J _ _ _=>rfl
 | .e _ _=>rfl | .y _ _ _ _=>rfl | .K _ _ _ _ _=>rfl | .H _ _ _ _=>rfl | .F _=>rfl | .G _ _ _=>rfl | .L _=>rfl
@[simp] theorem aa.tW:∀l:List aa,aa.vI l=aa.jD l
 | []=>rfl
 |v::r=>(dh (· ++aa.vI r) (aa.Oi v)).trans (dh (v.dP++ ·) (aa.tW r))
end
mutual
@[simp] theorem aa.Cl(φ:aa->aa):∀v:aa,v.IX φ=v.dY φ
 | .u cs=>dh aa.u (aa.zK φ cs)
 | .q cs=>dh aa.q (aa.zK φ cs)
 | .z f a b=>(dh (λx=>aa.z f x (aa.IY φ b)) (aa.zK φ a)).trans (dh (aa.z f (aa.nz φ a)) (aa.zK φ b))
 | .C t v=>dh (aa.C t) (aa.Cl φ v)
 | .m=>rfl | .p _=>rfl | .c _ _=>rfl | .h _=>rfl | .B=>rfl | .E=>rfl | .N=>rfl | .M=>rfl | .w=>rfl
 | .d _ _=>rfl | .O _ _=>rfl | .A _=>rfl | .J _ _ _=>rfl
 | .e _ _=>rfl | .y _ _ _ _=>rfl | .K _ _ _ _ _=>rfl | .H _ _ _ _=>rfl | .F _=>rfl | .G _ _ _=>rfl | .L _=>rfl
@[simp] theorem aa.zK(φ:aa->aa):∀l:List aa,aa.IY φ l=aa.nz φ l
 | []=>rfl
 |v::r=>(dh (· ::aa.IY φ r) (aa.Cl φ v)).trans (dh (v.dY φ:: ·) (aa.zK φ r))
end
mutual
@[simp] theorem aa.Oj:∀v:aa,v.ZI=v.lE
 | .u cs=>aa.Cm cs
 | .q cs=>aa.Cm cs
 | .z _ a b=>(dh (· &&aa.IZ b) (aa.Cm a)).trans (dh (aa.sd a && ·) (aa.Cm b))
 | .C _ v=>aa.Oj v
 | .m=>rfl | .p _=>rfl | .c _ _=>rfl | .h _=>rfl | .B=>rfl | .E=>rfl | .N=>rfl | .M=>rfl | .w=>rfl
 | .d _ _=>rfl | .O _ _=>rfl | .A _=>rfl | .J _ _ _=>rfl
 | .e _ _=>rfl | .y _ _ _ _=>rfl | .K _ _ _ _ _=>rfl | .H _ _ _ _=>rfl | .F _=>rfl | .G _ _ _=>rfl | .L _=>rfl
@[simp] theorem aa.Cm:∀l:List aa,aa.IZ l=aa.sd l
 | []=>rfl
 |v::r=>(dh (· &&aa.IZ r) (aa.Oj v)).trans (dh (v.lE && ·) (aa.Cm r))
end
def bY.D:bY->Bool | .d=>true | .a _=>true | .b=>true |_=>false
def aj.zL:aj->List Nat
 | .a _ cs=>aa.vI cs
 |_=> []
def aj.I0(T:TypeId->bz):aj->Bool
 | .a _ cs=>aa.IZ cs
 | .b _ _ t _=>(T t).d.all bY.D
 | .d _ t _ _=>(match(T t).c with | .g k e=>(T k).d.all bY.D && (T e).d.all bY.D |_=>false)
 | .f .. =>true
 | .c=>true
def gy(seen:List Nat):List Nat->List Nat
 | []=>seen
 |i::r=>(match seen.contains i with |true=>gy seen r |false=>gy (seen++ [i]) r)
def zM(h:Nat->aj):Nat->List Nat->Nat->List Nat
 |0,seen,_=>seen
 |n+1,seen,k=>match seen[k]? with
  |none=>seen
  |some i=>zM h n (gy seen (h i).zL) (k+1)
def me(h:Nat->aj)(start:List Nat):List Nat:=zM h 64 (gy [] start) 0
def iy(p:List Nat)(i:Nat):Option Nat:=match p with
 | []=>none
 |j::r=>(match Nat.beq i j with |true=>some 0 |false=>(iy r i).map (· +1))
def gz(f:Nat->Option Nat)(γ:Nat->Nat->Option Nat)(v:aa):aa:=match v with
 | .e i j=>(match f i with |some k=>.e k j |none=>.m)
 | .y t i g n=>(match f i,γ i g with |some k,some g'=>.y t k g' n |_,_=>.m)
 | .K t i g o n=>(match f i,γ i g with |some k,some g'=>.K t k g' o n |_,_=>.m)
 | .H i g a j=>(match f i,γ i g with |some k,some g'=>.H k g' a j |_,_=>.m)
 | .F i=>(match f i with |some k=>.F k |none=>.m)
 | .G t i n=>(match f i with |some k=>.G t k n |none=>.m)
 | .L i=>(match f i with |some k=>.L k |none=>.m)
 |v=>v
def nA(h:Nat->aj)(δ:Nat->Nat->Nat)(i g:Nat):Option Nat:=match h i with
 | .b _ g' _ _=>(match Nat.beq g g' with |true=>some (δ i g') |false=>none)
 |_=>none
def aj.vJ(φ:aa->aa)(g:Nat->Nat):aj->aj
 | .a ro cs=>.a ro (aa.IY φ cs)
 | .b ro g' t vs=>.b ro (g g') t vs
 | .d ro t ks vs=>.d ro t ks vs
 | .f ro s k=>.f ro s k
 | .c=>.c
def se(h:Nat->aj)(δ:Nat->Nat->Nat)(ids:List Nat)(v:aa):aa:=v.IX (gz (iy ids) (nA h δ))
def kB(h:Nat->aj)(δ:Nat->Nat->Nat)(ids:List Nat):List aj:=ids.map λi=>(h i).vJ (gz (iy ids) (nA h δ)) (δ i)
def pZ:Nat->Nat->Nat:=λ_ _=>0
def zN(m:Nat):Nat->Nat->Nat:=λi g=>(match Nat.blt i m with |true=>min g 1 |false=>0)
def nB(m:Nat):Nat->Nat->Nat:=λi g=>(match Nat.blt i m with |true=>g |false=>0)
def fy{α:Type}(d:α):List (Nat×α)->Nat->α
 | [],_=>d
 | (i,x)::r,j=>(match Nat.beq j i with |true=>x |false=>fy d r j)
def a_:List aj->Nat->aj
 | [],_=>.c
 |o::_,0=>o
 |_::r,n+1=>a_ r n
def vK(ty:bz):Nat->List aa->List aa
 |0,_=> []
 |m+1,cs=>mL ty.b (cs.take ty.a)::vK ty m (cs.drop ty.a)
def ZJ(T:TypeId->bz)(t:TypeId)(m:Nat)(cs:List aa):aa:=match(T t).D &&Nat.beq cs.length (m*(T t).a) && (vK (T t) m cs).all (cA (T t))with
 |true=>.d t ((vK (T t) m cs).map (dm (T t)))
 |false=>.m
def tX(T:TypeId->bz)(h:Nat->aj):Nat->aa->aa
 |0,_=>.m
 |n+1,v=>v.IX λr=>match r with
  | .y _ i g _=>(match h i with | .b _ g' t vs=>(match Nat.beq g g' with |true=>.d t vs |false=>.m) |_=>.m)
  | .K _ i g o m=>(match h i with | .b _ g' t vs=>(match Nat.beq g g' with |true=>.d t ((vs.drop o).take m) |false=>.m) |_=>.m)
  | .H i g k j=>(match h i with | .b _ g' t vs=>(match Nat.beq g g' with |true=>.A ((dm (T t) (vs.getD k .m)).V.drop j) |false=>.m) |_=>.m)
  | .e i j=>(match h i with | .a _ cs=>.A ((cs.drop j).map (tX T h n)) |_=>.m)
  | .F i=>(match h i with | .d _ t ks vs=>.J t ks vs |_=>.m)
  | .G t i m=>(match h i with | .a _ cs=>ZJ T t m (cs.map (tX T h n)) |_=>.m)
  |_=>.m
def zO:Nat:=8
def aj.U:aj->aj
 | .a _ cs=>.a true cs
 | .b _ g t vs=>.b true g t vs
 | .d _ t ks vs=>.d true t ks vs
 | .f _ s k=>.f true s k
 | .c=>.c
def aj.V:aj->Nat | .b _ g _ _=>g |_=>0
def Ol:Value->aa
 | .bool b=>.p b
 | .int k n=>.c k n
 | .string s=>.h s.data.toList
 | .slice none 0 0=>.d 0 []
 | .pointer none=>.B
 | .map none=>.E
 | .nilFunc=>.N
 | .nilIface=>.M
 | .agg cs=>.u (cs.toList.map ZK)
 |_=>.m
where ZK:Value->aa
 | .bool b=>.p b
 | .int k n=>.c k n
 | .string s=>.h s.data.toList
 | .slice none 0 0=>.d 0 []
 | .pointer none=>.B
 | .map none=>.E
 | .nilFunc=>.N
 | .nilIface=>.M
 |_=>.m
def aN(E:bD)(s:Nat->aa):Operand->aa
 | .tmp t=>s t
 | .const v=>Ol v
 | .func f=>.z f [] []
 | .global g=>E.b g
def ow(E:bD)(s:Nat->aa)(x:Option Operand)(d:Int):Option Int:=match x with
 |some l=>(match aN E s l with | .c _ n=>some n |_=>none)
 |none=>some d
def Om(h:Nat->aj):aa->Option (TypeId×List aa)
 | .d t vs=>some (t,vs)
 | .O t vs=>some (t,vs)
 | .w=>some (0,[])
 | .y _ i g _=>(match h i with | .b _ g' t vs=>(match Nat.beq g g' with |true=>some (t,vs) |false=>none) |_=>none)
 | .K _ i g o m=>(match h i with | .b _ g' t vs=>(match Nat.beq g g' with |true=>some (t,(vs.drop o).take m) |false=>none) |_=>none)
 |_=>none
def Cn(T:TypeId->bz)(h:Nat->aj):aa->Option (List aa)
 | .A cs=>some cs
 | .e i j=>(match h i with | .a _ cs=>some (cs.drop j) |_=>none)
 | .H i g k j=>(match h i with | .b _ g' t vs=>(match Nat.beq g g' with |true=>some ((dm (T t) (vs.getD k .m)).V.drop j) |false=>none) |_=>none)
 |_=>none
def xL:aa->Option Nat
 | .d _ vs=>some vs.length
 | .O _ vs=>some vs.length
 | .w=>some 0
 | .y _ _ _ n=>some n
 | .K _ _ _ _ n=>some n
 | .G _ _ n=>some n
 |_=>none
def nC:aa->aa->Option Bool
 | .p a,.p b=>some (a==b)
 | .c j a,.c k b=>(match decide (j=k)with |true=>some (a==b) |false=>none)
 | .h a,.h b=>some (a==b)
 |_,_=>none
def ZL:aa->aa->Option Bool
 | .B,.B=>some true
 | .B,.A _=>some false | .B,.e .. =>some false | .B,.H .. =>some false
 | .A _,.B=>some false | .e ..,.B=>some false | .H ..,.B=>some false
 |_,_=>none
def ZM:aa->aa->Option Bool
 | .N,.N=>some true
 | .N,.z .. =>some false | .z ..,.N=>some false
 |_,_=>none
def ZN:aa->aa->Option Bool
 | .E,.E=>some true
 | .E,.J .. =>some false | .E,.F _=>some false
 | .J ..,.E=>some false | .F _,.E=>some false
 |_,_=>none
def p7:List aa->List aa->Option Bool
 | [],[]=>some true
 |a::as,b::bs=>match nC a b,p7 as bs with
  |some x,some y=>some (x &&y)
  |_,_=>none
 |_,_=>none
def Co(T:bz)(a b:aa):Option Bool:=match a,b with
 | .u xs,.u ys=>(match T.c with
  | .f _=>(match T.f &&bT T.d xs &&bT T.d ys with
   |true=>p7 xs ys |false=>none)
  |_=>none)
 | .p a,.p b=>(match T.c with | .i=>some (a==b) |_=>none)
 |a,b=>(match T.c with | .l _=>ZL a b | .m=>ZM a b | .g _ _=>ZN a b |_=>none)
def lF(T:bz)(a b:aa):Bool:=match T.b with
 |true=>(p7 (gJ T.d 0 a) (gJ T.d 0 b)).getD false
 |false=>match T.d with
  | [k]=>(nC (lg k a) (lg k b)).getD false
  |_=>false
def iN(T:bz)(k:aa):List aa->List aa->Option aa
 |x::xs,y::ys=>(match lF T k x with |true=>some y |false=>iN T k xs ys)
 |_,_=>none
def fL(T:bz)(k v:aa):List aa->List aa->List aa×List aa
 |x::xs,y::ys=>(match lF T k x with |true=>(k::xs,v::ys) |false=>let r:=fL T k v xs ys;(x::r.1,y::r.2))
 |_,_=>([k],[v])
def p8(T:bz):Bool:=T.d.all bY.D && (match T.b with |true=>T.f |false=>(match T.c with | .b=>true | .c _=>true | .i=>true |_=>false))
def ak5(op:BinOp)(k:IntKind)(x y:Int):Option Int:=
 match op with
 | .and=>some (k.wrap (BitVec.ofInt k.bits x &&&BitVec.ofInt k.bits y).toNat)
 | .or=>some (k.wrap (BitVec.ofInt k.bits x |||BitVec.ofInt k.bits y).toNat)
 | .xor=>some (k.wrap (BitVec.ofInt k.bits x ^^^ BitVec.ofInt k.bits y).toNat)
 | .andNot=>some (k.wrap (BitVec.ofInt k.bits x &&& ~~~BitVec.ofInt k.bits y).toNat)
 |_=>none
def Cp(op:BinOp)(k:IntKind)(x y:Int):af aa:=
 match op with
 | .add=>.g (.c k (k.wrap (x+y)))
 | .sub=>.g (.c k (k.wrap (x-y)))
 | .mul=>.g (.c k (k.wrap (x*y)))
 | .quo=>.I (decide (y≠0)) (.g (.c k (k.wrap (x.tdiv y))))
 | .rem=>.I (decide (y≠0)) (.g (.c k (x.tmod y)))
 | .eql=>.g (.p (x==y))
 | .neq=>.g (.p (x !=y))
 | .lss=>.g (.p (decide (x<y)))
 | .leq=>.g (.p (decide (x<=y)))
 | .gtr=>.g (.p (decide (x>y)))
 | .geq=>.g (.p (decide (x>=y)))
 |op=>match ak5 op k x y with
  |some z=>.g (.c k z)
  |none=>.d
def eU:Nat:=4294967296
def xM(T:bz)(op:BinOp)(a b:aa):af aa:=
 match a,b with
 | .c k x,.c k' y=>(match op with
  | .shl=>.I (decide (0<=y)) (.g (.c k (k.wrap (x*2 ^ (min y.toNat k.bits)))))
  | .shr=>.I (decide (0<=y)) (.g (.c k (x.fdiv (2 ^ (min y.toNat k.bits)))))
  |op=>(match decide (k=k')with |true=>Cp op k x y |false=>.d))
 | .h x,.h y=>(match op with
  | .add=>.I (decide (x.length+y.length<=eU)) (.g (.h (x++y)))
  | .eql=>.g (.p (x==y))
  | .neq=>.g (.p !(x==y))
  | .lss=>.g (.p (Op.bytesLess x y))
  | .gtr=>.g (.p !(Op.bytesLess x y ||x==y))
  | .leq=>.g (.p (Op.bytesLess x y ||x==y))
  | .geq=>.g (.p !(Op.bytesLess x y))
  |_=>.d)
 |x,y=>(match op with
  | .eql=>(match Co T x y with |some r=>.g (.p r) |none=>.d)
  | .neq=>(match Co T x y with |some r=>.g (.p !r) |none=>.d)
  |_=>.d)
abbrev q6:=List (Nat×aj)
inductive di where
 |a (v:aa) (u:q6) |b (v:aa) (u:q6)
def sf(fr:Nat)(t:TypeId)(vs:List aa):af di:=.g (.a (.y t fr 0 vs.length) [(fr,.b false 0 t vs)])
def tY(T:bz)(part:Operand->aa):List (Nat×Operand)->List aa->Option (List aa)
 | [],vs=>some vs
 | (i,x)::r,vs=>(match cA T (part x) && (part x).gx with
  |true=>(match Nat.blt i vs.length with |true=>tY T part r (vs.set i (dm T (part x))) |false=>none)
  |false=>none)
def aa.pj:aa->Bool | .m=>false | .q _=>false | .u _=>false |_=>true
def aa.ZO:aa->Bool | .u _=>true |v=>v.pj
def p9(fs:List (Nat×Nat×Bool))(part:Operand->aa):List (Nat×Operand)->List aa->Option (List aa)
 | [],cs=>some cs
 | (i,x)::r,cs=>match fs[i]? with
  |some (off,n,_)=>(match(part x).ZO &&Nat.beq (part x).V.length n &&Nat.ble (off+n) cs.length with
   |true=>p9 fs part r (cs.take off++(part x).V++cs.drop (off+n))
   |false=>none)
  |none=>none
def I1(h:Nat->aj)(fr:Nat)(t:TypeId)(a:aa)(news:List aa):af di:=
 match a with
 | .w=>.I (decide (0+news.length<=eU)) (.g (.a (.y t fr 1 news.length) [(fr,.b false 1 t news)]))
 | .O t' vs=>(match(Nat.beq t t' ||vs.isEmpty) &&Nat.blt 0 news.length with
  |true=>.I (decide (vs.length+news.length<=eU)) (.g (.a (.y t fr 1 (vs++news).length) [(fr,.b false 1 t (vs++news))]))
  |false=>.d)
 | .y _ i g _=>(match h i with
  | .b false g' t' vs=>(match Nat.beq g g' &&Nat.beq t t' with
   |true=>.I (decide (vs.length+news.length<=eU)) (.g (.a (.y t i (g+1) (vs++news).length) [(i,.b false (g+1) t' (vs++news))]))
   |false=>.d)
  |_=>.d)
 | .K _ i g o m=>(match h i with
  | .b false g' t' vs=>(match Nat.beq g g' &&Nat.beq t t' with
   |false=>.d
   |true=>match Nat.beq o 0 with
   |false=>(match Nat.blt 0 news.length with
    |true=>.I (decide (m+news.length<=eU)) (.g (.a (.y t i (g+2) (((vs.drop o).take m)++news).length) [(i,.b false (g+2) t' (((vs.drop o).take m)++news))]))
    |false=>.d)
   |true=>.I (decide (m+news.length<=eU) &&decide (0<vs.length)) (.g (.a (.y t i (g+1) (((vs.drop o).take m)++news).length) [(i,.b false (g+1) t' (((vs.drop o).take m)++news))])))
  |_=>.d)
 |_=>.d
def aj.D:aj->Bool | .c=>false |_=>true
def xN(h:Nat->aj)(ids bor:List Nat):Bool:=ids.all (λi=>(h i).D) &&bor.all λi=>(h i).D && !ids.contains i && (h i).zL.all bor.contains
def jE(h:Nat->aj)(ids:List Nat):q6:=ids.map λk=>(k,(h k).U)
def On(T:TypeId->bz)(h:Nat->aj)(fr:Nat)(e:TypeId)(a b:aa):af di:=match b with
 | .G _ i _=>(match xN h [] (me h [i])with
  |true=>(match tX T h zO b with
   | .d e' new=>(match Nat.beq e e' with
    |true=>(I1 (bU h (jE h (me h [i]))) fr e a new).U λr=>(match r with
     | .a v u=>.g (.a v (jE h (me h [i])++u))
     | .b _ _=>.d)
    |false=>.d)
   |_=>.d)
  |false=>.d)
 |_=>.d
def I2(E:bD)(h:Nat->aj)(fr:Nat)(b:Builtin)(ts:Array TypeId)(args:List aa):af di:=
 match b,args with
 | .len,[v]=>(match ts.toList with
  | [t]=>(match(E.a t).c,v with
   | .b,.h x=>.g (.a (.c .i64 x.length) [])
   | .a _,v=>(match xL v with |some n=>.g (.a (.c .i64 n) []) |none=>.d)
   |_,_=>.d)
  |_=>.d)
 | .append,[a,b]=>(match ts.toList with
  | [t,t']=>(match Nat.beq t t' with |false=>.d |true=>match(E.a t).c with
   | .a e=>(match(E.a e).D with |false=>.d |true=>(match Om h b with
    |some (e',new)=>(match Nat.beq e e' ||new.isEmpty with |true=>I1 h fr e a new |false=>.d)
    |none=>On E.a h fr e a b))
   |_=>.d)
  |_=>.d)
 | .max,[.c k x,.c k' y]=>(match decide (k=k')with |true=>.g (.a (.c k (match decide (y>x)with |true=>y |false=>x)) []) |false=>.d)
 | .min,[.c k x,.c k' y]=>(match decide (k=k')with |true=>.g (.a (.c k (match decide (y<x)with |true=>y |false=>x)) []) |false=>.d)
 |_,_=>.d
def si(byref:List Bool):List aa->List aa×List aa
 | []=>([],[])
 |v::r=>let x:=si byref.tail r;(match byref.headD false with |true=>(v::x.1,x.2) |false=>(x.1,v::x.2))
def E9(T:TypeId->bz)(h:Nat->aj)(φ:aa->aa)(byref:List Bool):List aa->List aa
 | []=> []
 |v::r=>(match byref.headD false with |true=>φ v |false=>tX T h zO v)::E9 T h φ byref.tail r
def aj.I:aj->Bool | .a ro _=> !ro | .b ro _ _ _=> !ro | .d ro _ _ _=> !ro | .f ro _ _=> !ro | .c=>false
def j9(ids:List Nat)(fr:Nat)(k:Nat):Nat:=match ids[k]? with |some i=>i |none=>fr+(k-ids.length)
def p_(h:Nat->aj)(ids:List Nat)(k:Nat):Nat:=match ids[k]? with |some c=>(h c).V |none=>0
def I3(h:Nat->aj)(ids:List Nat)(fr:Nat)(v:aa):aa:=v.IX (gz (λi=>some (j9 ids fr i)) (λi g=>some (g+p_ h ids i)))
def zP(h:Nat->aj)(ids:List Nat)(fr:Nat)(k:Nat):List aj->q6
 | []=> []
 |o::r=>(j9 ids fr k,o.vJ (gz (λi=>some (j9 ids fr i)) (λi g=>some (g+p_ h ids i))) (· +p_ h ids k))::zP h ids fr (k+1) r
def Oo(T:TypeId->bz)(h:Nat->aj)(bor:List Nat)(v:aa)(ao:List aj):q6:=
 match v.ZI &&ao.all (λo=>o.I0 T && (o.I || !o.D))with |true=> [] |false=>bor.map λi=>(i,(h i).U)
def q7(T:TypeId->bz)(h:Nat->aj)(ids bor:List Nat)(fr:Nat)(v:aa)(ao:List aj):q6:=Oo T h bor v ao++zP h ids fr 0 ao
def Oq(T:TypeId->bz)(h:Nat->aj)(ids bor:List Nat)(fr:Nat):aC->af di
 | .a v ao=>(match Nat.ble ids.length ao.length &&Nat.ble ao.length (ids.length+64)with
  |true=>.g (.a (I3 h ids fr v) (q7 T h ids bor fr v ao))
  |false=>.d)
 | .b v ao=>(match Nat.ble ids.length ao.length &&Nat.ble ao.length (ids.length+64) &&v.gx with
  |true=>.g (.b v (q7 T h ids bor fr v ao))
  |false=>.d)
def E_(T:TypeId->bz):List TypeId->List aa->List aa
 |t::ts,v::vs=>(match(T t).D &&cA (T t) v with |true=>dm (T t) v |false=>v)::E_ T ts vs
 |_,vs=>vs
def Cq(E:bD)(h:Nat->aj)(fr:Nat)(f:FuncId)(args:List aa):af di:=
 let ids:=me h (aa.vI (si (E.e f) args).1)
 let bor:=me h (aa.vI (si (E.e f) args).2)
 match xN h ids bor with
 |false=>.d
 |true=>(E.f f (E9 E.a h (se h pZ ids) (E.e f) args) (kB h pZ ids)).U (Oq E.a h ids bor fr)
def sj(ok:Bool)(v:aa)(b:Bool):aa:=match ok with |true=>.q [v,.p b] |false=>v
def kC{α β:Type}(o:Option α)(f:α->af β):af β:=match o with |some a=>f a |none=>.d
def zQ:Operand->Bool | .const _=>true |_=>false
def I4:aa->aa->Option Bool
 | .M,.M=>some true
 | .M,.C .. =>some false
 | .C ..,.M=>some false
 |_,_=>none
def I5:Operand->aa->Option Bool
 | .const (.slice none 0 0),.w=>some true
 | .const (.slice none 0 0),.d _ (_::_)=>some false
 | .const (.slice none 0 0),.O _ (_::_)=>some false
 |_,_=>none
def Fa:List (Nat×Operand)->Bool
 | [(_,.const (.agg _))]=>true
 |_=>false
def cj(E:bD)(h:Nat->aj)(s:Nat->aa)(fr:Nat)(o:Oper):af di:=
 match o.op with
 | .move x=>.g (.a (aN E s x) [])
 | .assign (.const (.slice none 0 0))=>(match(E.a o.type).c with | .a e=>(match(E.a e).D with |true=>sf fr e [] |false=>.d) |_=>.d)
 | .assign x=>.g (.a (aN E s x) [])
 | .pick c a b=>(match aN E s c with
  | .p t=>.c t (.g (.a (aN E s a) [])) (.g (.a (aN E s b) []))
  |_=>.d)
 | .alloc t=>(match(E.a t).D with |false=>.d |true=>.g (.a (.e fr 0) [(fr,.a false (mc (E.a t)).V)]))
 | .box t x=>(match(E.a t).D &&Nat.beq (aN E s x).V.length (E.a t).a && (aN E s x).V.all aa.pj with |true=>.g (.a (.e fr 0) [(fr,.a false (aN E s x).V)]) |false=>.d)
 | .build t parts=>(match(E.a t).c with
  | .f fs=>kC (p9 fs (aN E s) parts.toList (mc (E.a t)).V) λcs=>.g (.a (.u cs) [])
  | .d n e=>kC (match(E.a e).D with |false=>none |true=>p9 ((List.range n).map λi=>(i*(E.a e).a,(E.a e).a,false)) (aN E s) parts.toList (mc (E.a t)).V) λcs=>.g (.a (.u cs) [])
  |_=>.d)
 | .buildSlice t len parts=>(match(E.a t).c with
  | .a e=>(match Nat.ble len 65536 && (E.a e).D with
   |true=>(match tY (E.a e) (aN E s) parts.toList (List.replicate len (gw (E.a e)))with
    |some vs=>(match Fa parts.toList with |true=>.g (.a (.d e vs) []) |false=>sf fr e vs)
    |none=>(match Fa parts.toList with |true=>.d |false=>kC (p9 ((List.range len).map λi=>(i*(E.a e).a,(E.a e).a,(E.a e).b)) (aN E s) parts.toList (List.replicate len (gw (E.a e)).V).flatten) λcs=>.g (.a (.G e fr len) [(fr,.a false cs)])))
   |false=>.d)
  |_=>.d)
 | .load t a=>kC (match(E.a t).D with |true=>Cn E.a h (aN E s a) |false=>none) λcs=>
   (match(E.a t).b with
   |true=>(match Nat.ble (E.a t).a cs.length with |true=>.g (.a (.u (cs.take (E.a t).a)) []) |false=>.d)
   |false=>(match cs with |c::_=>.g (.a c []) | []=>.d))
 | .store t a x=>(match aN E s a with
  | .e i j=>(match h i with
   | .a false cs=>(match(E.a t).D &&Nat.beq (aN E s x).V.length (E.a t).a &&Nat.ble (j+(aN E s x).V.length) cs.length && (aN E s x).V.all aa.pj with
    |true=>.g (.a .m [(i,.a false (cs.take j++(aN E s x).V++cs.drop (j+(aN E s x).V.length)))])
    |false=>.d)
   |_=>.d)
  | .H i g k j=>(match h i with
   | .b false g' e vs=>(match(E.a t).D &&Nat.beq g g' &&Nat.beq (aN E s x).V.length (E.a t).a &&Nat.ble (j+(aN E s x).V.length) (E.a e).d.length
      &&bT (((E.a e).d.drop j).take (aN E s x).V.length) (aN E s x).V && (aN E s x).gx with
    |true=>.g (.a .m [(i,.b false g' e (vs.set k (mL (E.a e).b ((dm (E.a e) (vs.getD k .m)).V.take j++gJ (((E.a e).d.drop j).take (aN E s x).V.length) 0 (.u (aN E s x).V)++(dm (E.a e) (vs.getD k .m)).V.drop (j+(aN E s x).V.length)))))])
    |false=>.d)
   |_=>.d)
  |_=>.d)
 | .binOp op t x y _=>(match I5 y (aN E s x)with
  |some r=>(match(E.a t).c,op with
   | .a _,.eql=>.g (.a (.p r) [])
   | .a _,.neq=>.g (.a (.p !r) [])
   |_,_=>.d)
  |none=>match I4 (aN E s x) (aN E s y)with
  |some r=>(match(E.a t).c,zQ x ||zQ y,op with
   | .h,true,.eql=>.g (.a (.p r) [])
   | .h,true,.neq=>.g (.a (.p !r) [])
   |_,_,_=>.d)
  |none=>(xM (E.a t) op (aN E s x) (aN E s y)).U λv=>.g (.a v []))
 | .unOp op _ x=>(match op,aN E s x with
  | .not,.p b=>.g (.a (.p !b) [])
  | .neg,.c k n=>.g (.a (.c k (k.wrap (0-n))) [])
  | .xor,.c k n=>.g (.a (.c k (k.wrap (BitVec.ofInt k.bits (if k.signed then-1 else k.max) ^^^ BitVec.ofInt k.bits n).toNat)) [])
  |_,_=>.d)
 | .convert src dst x=>(match(E.a dst).c,aN E s x with
  | .c k,.c _ n=>(match(E.a src).D with |true=>.g (.a (.c k (k.wrap n)) []) |false=>.d)
  |_,_=>.d)
 | .makeFunc (.func f) a b=>.g (.a (.z f (a.toList.map (aN E s)) (b.toList.map (aN E s))) [])
 | .makeMap t none=>(match(E.a t).c with | .g .. =>.g (.a (.F fr) [(fr,.d false t [] [])]) |_=>.d)
 | .makeSlice t l c=>(match(E.a t).c,aN E s l,aN E s c with
  | .a e,.c .i64 n,.c .i64 m=>.I ((E.a e).D &&decide (0<=n) &&decide (n=m) &&decide (n<=(eU:Int))) (match(E.a e).d.any bY.I && !E.g 2000000 with
   |true=>.g (.a (.G e fr n.toNat) [(fr,.a false (List.replicate n.toNat (mc (E.a e)).V).flatten)])
   |false=>sf fr e (List.replicate n.toNat (gw (E.a e))))
  |_,_,_=>.d)
 | .slice t x lo hi none=>(match(E.a t).c,aN E s x with
  | .b,.h b=>(match ow E s lo 0,ow E s hi b.length with
   |some l,some hh=>.I (decide (0<=l) &&decide (l<=hh) &&decide (hh<=(b.length:Int))) (.g (.a (.h ((b.drop l.toNat).take (hh.toNat-l.toNat))) []))
   |_,_=>.d)
  | .a e,v=>(match(E.a e).D,xL v with
   |true,some len=>(match ow E s lo 0,ow E s hi len with
    |some l,some hh=>.I (decide (0<=l) &&decide (l<=hh) &&decide (hh<=(len:Int))) (match v with
     | .d t vs=>(match Nat.beq t e ||vs.isEmpty with |true=>.g (.a (.d t ((vs.drop l.toNat).take (hh.toNat-l.toNat))) []) |false=>.d)
     | .y t i g _=>(match Nat.beq t e with |true=>.g (.a (.K t i g l.toNat (hh.toNat-l.toNat)) []) |false=>.d)
     | .K t i g o _=>(match Nat.beq t e with |true=>.g (.a (.K t i g (o+l.toNat) (hh.toNat-l.toNat)) []) |false=>.d)
     |_=>.d)
    |_,_=>.d)
   |_,_=>.d)
  | .d n e,.A cs=>(match lo,hi with
   |none,none=>(match(E.a e).D && !(E.a e).b &&Nat.ble n cs.length && (cs.take n).all (cA (E.a e))with
    |true=>.g (.a (.d e ((cs.take n).map (dm (E.a e)))) [])
    |false=>.d)
   |_,_=>.d)
  |_,_=>.d)
 | .slice t x none (some hi) (some mx)=>(match(E.a t).c,aN E s x,aN E s hi,aN E s mx with
  | .a e,.d t' vs,.c _ n,.c _ k=>(match(E.a e).D && (Nat.beq t' e ||vs.isEmpty)with
   |true=>.I (decide (0<=n) &&decide (n<=(vs.length:Int)) &&decide (k=n)) (.g (.a (.O e (vs.take n.toNat)) []))
   |false=>.d)
  |_,_,_,_=>.d)
 | .fieldAddr t x f=>(match(E.a t).c with
  | .f fs=>(match fs[f]?,aN E s x with
   |some (off,_,_),.A cs=>.g (.a (.A (cs.drop off)) [])
   |some (off,_,_),.e i j=>.g (.a (.e i (j+off)) [])
   |some (off,_,_),.H i g k j=>.g (.a (.H i g k (j+off)) [])
   |_,_=>.d)
  |_=>.d)
 | .field t x f=>(match(E.a t).c with
  | .f fs=>(match fs[f]?,aN E s x with
   |some (off,n,a),.u cs=>(match Nat.ble (off+n) cs.length with
    |true=>.g (.a (mL a ((cs.drop off).take n)) [])
    |false=>.d)
   |_,_=>.d)
  |_=>.d)
 | .indexAddr t x ix=>(match aN E s ix with
  | .c _ n=>(match(E.a t).c with
   | .a e=>(match aN E s x with
    | .d t vs=>(match Nat.beq t e && (E.a e).D with
     |true=>.I (decide (0<=n) &&decide (n<(vs.length:Int))) (.g (.a (.A (dm (E.a e) (vs.getD n.toNat .m)).V) []))
     |false=>.d)
    | .y t i g m=>.I (Nat.beq t e && (E.a e).D &&decide (0<=n) &&decide (n<(m:Int))) (.g (.a (.H i g n.toNat 0) []))
    | .K t i g o m=>.I (Nat.beq t e && (E.a e).D &&decide (0<=n) &&decide (n<(m:Int))) (.g (.a (.H i g (o+n.toNat) 0) []))
    | .G t i m=>.I (Nat.beq t e && (E.a e).D &&decide (0<=n) &&decide (n<(m:Int))) (.g (.a (.e i (n.toNat*(E.a e).a)) []))
    |_=>.d)
   | .d m e=>.I ((E.a e).D &&decide (0<=n) &&decide (n<(m:Int))) (match aN E s x with
    | .A cs=>.g (.a (.A (cs.drop (n.toNat*(E.a e).a))) [])
    | .e i j=>.g (.a (.e i (j+n.toNat*(E.a e).a)) [])
    | .H i g k j=>.g (.a (.H i g k (j+n.toNat*(E.a e).a)) [])
    |_=>.d)
   |_=>.d)
  |_=>.d)
 | .index t x ix=>(match(E.a t).c,aN E s x,aN E s ix with
  | .b,.h b,.c _ n=>.I (decide (0<=n) &&decide (n<(b.length:Int))) (.g (.a (.c .u8 (b.getD n.toNat 0).toNat) []))
  | .d m e,.u cs,.c _ n=>(match(E.a e).D &&Nat.ble (m*(E.a e).a) cs.length with
   |true=>.I (decide (0<=n) &&decide (n<(m:Int))) (.g (.a (mL (E.a e).b ((cs.drop (n.toNat*(E.a e).a)).take (E.a e).a)) []))
   |false=>.d)
  |_,_,_=>.d)
 | .lookup t x k ok=>(match(E.a t).c with
  | .g kt et=>
   let kv:=aN E s k
   (match(E.a kt).D && (E.a et).D &&cA (E.a kt) kv &&p8 (E.a kt)with
   |false=>.d
   |true=>
    let go:=λ(ks vs:List aa)=>(.c (iN (E.a kt) kv ks vs).isSome
      (.g (.a (sj ok (dm (E.a et) ((iN (E.a kt) kv ks vs).getD .m)) true) []))
      (.g (.a (sj ok (gw (E.a et)) false) [])):af di)
    (match aN E s x with
    | .F i=>(match h i with | .d _ t' ks vs=>(match Nat.beq t t' with |true=>go ks vs |false=>.d) |_=>.d)
    | .J t' ks vs=>(match Nat.beq t t' with |true=>go ks vs |false=>.d)
    | .E=>.g (.a (sj ok (gw (E.a et)) false) [])
    |_=>.d))
  |_=>.d)
 | .mapUpdate t m k x=>(match(E.a t).c with
  | .g kt et=>(match(E.a kt).D && (E.a et).D &&cA (E.a kt) (aN E s k) &&p8 (E.a kt) &&cA (E.a et) (aN E s x) && (aN E s x).gx with
   |true=>(match aN E s m with
    | .F i=>(match h i with
     | .d false t' ks vs=>(match Nat.beq t t' with
      |true=>.g (.a .m [(i,.d false t' (fL (E.a kt) (aN E s k) (dm (E.a et) (aN E s x)) ks vs).1 (fL (E.a kt) (aN E s k) (dm (E.a et) (aN E s x)) ks vs).2)])
      |false=>.d)
     |_=>.d)
    |_=>.d)
   |false=>.d)
  |_=>.d)
 | .range t x=>(match(E.a t).c,aN E s x with
  | .b,.h b=>.g (.a (.L fr) [(fr,.f false b 0)])
  |_,_=>.d)
 | .next x true=>(match aN E s x with
  | .L i=>(match h i with
   | .f false b k=>.c (Nat.blt k b.length) (.I (Nat.blt (b.getD k 0).toNat 128) (.g (.a (.q [.p true,.c .i64 k,.c .i32 (b.getD k 0).toNat]) [(i,.f false b (k+1))])))
    (.g (.a (.q [.p false]) []))
   |_=>.d)
  |_=>.d)
 | .nilCheck x=>(match aN E s x with
  | .A cs=>.g (.a (.A cs) [])
  | .e i j=>.g (.a (.e i j) [])
  | .H i g k j=>.g (.a (.H i g k j) [])
  |_=>.d)
 | .makeInterface t x=>(match(E.a t).D && !decide ((E.a t).c=.h)with
  |true=>.g (.a (.C t (aN E s x)) [])
  |false=>.d)
 | .typeAssert x _ t ok=>(match(E.a t).D && !decide ((E.a t).c=.h)with
  |false=>.d
  |true=>(match aN E s x with
   | .M=>(match ok with |true=>.g (.a (.q [gw (E.a t),.p false]) []) |false=>.d)
   | .C u v=>(match Nat.beq u t with
    |true=>.g (.a (sj ok v true) [])
    |false=>(match ok with |true=>.g (.a (.q [gw (E.a t),.p false]) []) |false=>.d))
   |_=>.d))
 | .extract t n=>(match aN E s t with
  | .q vs=>kC vs[n]? λv=>.g (.a v [])
  |_=>.d)
 | .call c=>(match c.callee with
  | .builtin b=>I2 E h fr b c.argTypes (c.args.toList.map (aN E s))
  | .value f=>(match aN E s f with
   | .z f a b=>Cq E h fr f (a++E_ E.a c.argTypes.toList (c.args.toList.map (aN E s))++b)
   |_=>.d)
  |_=>.d)
 | .panic x=>(match aN E s x with
  | .C t v=>(match v.gx with |true=>.g (.b (.C t v) []) |false=>.d)
  |_=>.d)
 |_=>.d
def ak6(E:bD)(s:Nat->aa)(p:Op):af di:=match p with
 | .move x=>.g (.a (aN E s x) [])
 |_=>.d
def ak7(E:bD)(s:Nat->aa)(fr:Nat)(o:Oper)(p:Op):af di:=match p with
 | .assign (.const (.slice none 0 0))=>(match(E.a o.type).c with | .a e=>(match(E.a e).D with |true=>sf fr e [] |false=>.d) |_=>.d)
 | .assign x=>.g (.a (aN E s x) [])
 |_=>.d
def ak8(E:bD)(s:Nat->aa)(p:Op):af di:=match p with
 | .pick c a b=>(match aN E s c with
  | .p t=>.c t (.g (.a (aN E s a) [])) (.g (.a (aN E s b) []))
  |_=>.d)
 |_=>.d
def ak9(E:bD)(fr:Nat)(p:Op):af di:=match p with
 | .alloc t=>(match(E.a t).D with |false=>.d |true=>.g (.a (.e fr 0) [(fr,.a false (mc (E.a t)).V)]))
 |_=>.d
def ak_(E:bD)(s:Nat->aa)(fr:Nat)(p:Op):af di:=match p with
 | .box t x=>(match(E.a t).D &&Nat.beq (aN E s x).V.length (E.a t).a && (aN E s x).V.all aa.pj with |true=>.g (.a (.e fr 0) [(fr,.a false (aN E s x).V)]) |false=>.d)
 |_=>.d
def ak'(E:bD)(s:Nat->aa)(p:Op):af di:=match p with
 | .build t parts=>(match(E.a t).c with
  | .f fs=>kC (p9 fs (aN E s) parts.toList (mc (E.a t)).V) λcs=>.g (.a (.u cs) [])
  | .d n e=>kC (match(E.a e).D with |false=>none |true=>p9 ((List.range n).map λi=>(i*(E.a e).a,(E.a e).a,false)) (aN E s) parts.toList (mc (E.a t)).V) λcs=>.g (.a (.u cs) [])
  |_=>.d)
 |_=>.d
def ala(E:bD)(s:Nat->aa)(fr:Nat)(p:Op):af di:=match p with
 | .buildSlice t len parts=>(match(E.a t).c with
  | .a e=>(match Nat.ble len 65536 && (E.a e).D with
   |true=>(match tY (E.a e) (aN E s) parts.toList (List.replicate len (gw (E.a e)))with
    |some vs=>(match Fa parts.toList with |true=>.g (.a (.d e vs) []) |false=>sf fr e vs)
    |none=>(match Fa parts.toList with |true=>.d |false=>kC (p9 ((List.range len).map λi=>(i*(E.a e).a,(E.a e).a,(E.a e).b)) (aN E s) parts.toList (List.replicate len (gw (E.a e)).V).flatten) λcs=>.g (.a (.G e fr len) [(fr,.a false cs)])))
   |false=>.d)
  |_=>.d)
 |_=>.d
def alb(E:bD)(h:Nat->aj)(s:Nat->aa)(p:Op):af di:=match p with
 | .load t a=>kC (match(E.a t).D with |true=>Cn E.a h (aN E s a) |false=>none) λcs=>
   (match(E.a t).b with
   |true=>(match Nat.ble (E.a t).a cs.length with |true=>.g (.a (.u (cs.take (E.a t).a)) []) |false=>.d)
   |false=>(match cs with |c::_=>.g (.a c []) | []=>.d))
 |_=>.d
def alc(E:bD)(h:Nat->aj)(s:Nat->aa)(p:Op):af di:=match p with
 | .store t a x=>(match aN E s a with
  | .e i j=>(match h i with
   | .a false cs=>(match(E.a t).D &&Nat.beq (aN E s x).V.length (E.a t).a &&Nat.ble (j+(aN E s x).V.length) cs.length && (aN E s x).V.all aa.pj with
    |true=>.g (.a .m [(i,.a false (cs.take j++(aN E s x).V++cs.drop (j+(aN E s x).V.length)))])
    |false=>.d)
   |_=>.d)
  | .H i g k j=>(match h i with
   | .b false g' e vs=>(match(E.a t).D &&Nat.beq g g' &&Nat.beq (aN E s x).V.length (E.a t).a &&Nat.ble (j+(aN E s x).V.length) (E.a e).d.length
      &&bT (((E.a e).d.drop j).take (aN E s x).V.length) (aN E s x).V && (aN E s x).gx with
    |true=>.g (.a .m [(i,.b false g' e (vs.set k (mL (E.a e).b ((dm (E.a e) (vs.getD k .m)).V.take j++gJ (((E.a e).d.drop j).take (aN E s x).V.length) 0 (.u (aN E s x).V)++(dm (E.a e) (vs.getD k .m)).V.drop (j+(aN E s x).V.length)))))])
    |false=>.d)
   |_=>.d)
  |_=>.d)
 |_=>.d
def ald(E:bD)(s:Nat->aa)(p:Op):af di:=match p with
 | .binOp op t x y _=>(match I5 y (aN E s x)with
  |some r=>(match(E.a t).c,op with
   | .a _,.eql=>.g (.a (.p r) [])
   | .a _,.neq=>.g (.a (.p !r) [])
   |_,_=>.d)
  |none=>match I4 (aN E s x) (aN E s y)with
  |some r=>(match(E.a t).c,zQ x ||zQ y,op with
   | .h,true,.eql=>.g (.a (.p r) [])
   | .h,true,.neq=>.g (.a (.p !r) [])
   |_,_,_=>.d)
  |none=>(xM (E.a t) op (aN E s x) (aN E s y)).U λv=>.g (.a v []))
 |_=>.d
def ale(E:bD)(s:Nat->aa)(p:Op):af di:=match p with
 | .unOp op _ x=>(match op,aN E s x with
  | .not,.p b=>.g (.a (.p !b) [])
  | .neg,.c k n=>.g (.a (.c k (k.wrap (0-n))) [])
  | .xor,.c k n=>.g (.a (.c k (k.wrap (BitVec.ofInt k.bits (if k.signed then-1 else k.max) ^^^ BitVec.ofInt k.bits n).toNat)) [])
  |_,_=>.d)
 |_=>.d
def alf(E:bD)(h:Nat->aj)(s:Nat->aa)(p:Op):af di:=match p with
 | .convert src dst x=>(match(E.a dst).c,aN E s x with
  | .c k,.c _ n=>(match(E.a src).D with |true=>.g (.a (.c k (k.wrap n)) []) |false=>.d)
  |_,_=>.d)
 |_=>.d
def alg(E:bD)(s:Nat->aa)(p:Op):af di:=match p with
 | .makeFunc (.func f) a b=>.g (.a (.z f (a.toList.map (aN E s)) (b.toList.map (aN E s))) [])
 |_=>.d
def alh(E:bD)(fr:Nat)(p:Op):af di:=match p with
 | .makeMap t none=>(match(E.a t).c with | .g .. =>.g (.a (.F fr) [(fr,.d false t [] [])]) |_=>.d)
 |_=>.d
def ali(E:bD)(s:Nat->aa)(fr:Nat)(p:Op):af di:=match p with
 | .makeSlice t l c=>(match(E.a t).c,aN E s l,aN E s c with
  | .a e,.c .i64 n,.c .i64 m=>.I ((E.a e).D &&decide (0<=n) &&decide (n=m) &&decide (n<=(eU:Int))) (match(E.a e).d.any bY.I && !E.g 2000000 with
   |true=>.g (.a (.G e fr n.toNat) [(fr,.a false (List.replicate n.toNat (mc (E.a e)).V).flatten)])
   |false=>sf fr e (List.replicate n.toNat (gw (E.a e))))
  |_,_,_=>.d)
 |_=>.d
def alj(E:bD)(s:Nat->aa)(p:Op):af di:=match p with
 | .slice t x lo hi none=>(match(E.a t).c,aN E s x with
  | .b,.h b=>(match ow E s lo 0,ow E s hi b.length with
   |some l,some hh=>.I (decide (0<=l) &&decide (l<=hh) &&decide (hh<=(b.length:Int))) (.g (.a (.h ((b.drop l.toNat).take (hh.toNat-l.toNat))) []))
   |_,_=>.d)
  | .a e,v=>(match(E.a e).D,xL v with
   |true,some len=>(match ow E s lo 0,ow E s hi len with
    |some l,some hh=>.I (decide (0<=l) &&decide (l<=hh) &&decide (hh<=(len:Int))) (match v with
     | .d t vs=>(match Nat.beq t e ||vs.isEmpty with |true=>.g (.a (.d t ((vs.drop l.toNat).take (hh.toNat-l.toNat))) []) |false=>.d)
     | .y t i g _=>(match Nat.beq t e with |true=>.g (.a (.K t i g l.toNat (hh.toNat-l.toNat)) []) |false=>.d)
     | .K t i g o _=>(match Nat.beq t e with |true=>.g (.a (.K t i g (o+l.toNat) (hh.toNat-l.toNat)) []) |false=>.d)
     |_=>.d)
    |_,_=>.d)
   |_,_=>.d)
  | .d n e,.A cs=>(match lo,hi with
   |none,none=>(match(E.a e).D && !(E.a e).b &&Nat.ble n cs.length && (cs.take n).all (cA (E.a e))with
    |true=>.g (.a (.d e ((cs.take n).map (dm (E.a e)))) [])
    |false=>.d)
   |_,_=>.d)
  |_,_=>.d)
 | .slice t x none (some hi) (some mx)=>(match(E.a t).c,aN E s x,aN E s hi,aN E s mx with
  | .a e,.d t' vs,.c _ n,.c _ k=>(match(E.a e).D && (Nat.beq t' e ||vs.isEmpty)with
   |true=>.I (decide (0<=n) &&decide (n<=(vs.length:Int)) &&decide (k=n)) (.g (.a (.O e (vs.take n.toNat)) []))
   |false=>.d)
  |_,_,_,_=>.d)
 |_=>.d
def alk(E:bD)(s:Nat->aa)(p:Op):af di:=match p with
 | .fieldAddr t x f=>(match(E.a t).c with
  | .f fs=>(match fs[f]?,aN E s x with
   |some (off,_,_),.A cs=>.g (.a (.A (cs.drop off)) [])
   |some (off,_,_),.e i j=>.g (.a (.e i (j+off)) [])
   |some (off,_,_),.H i g k j=>.g (.a (.H i g k (j+off)) [])
   |_,_=>.d)
  |_=>.d)
 |_=>.d
def alm(E:bD)(s:Nat->aa)(p:Op):af di:=match p with
 | .field t x f=>(match(E.a t).c with
  | .f fs=>(match fs[f]?,aN E s x with
   |some (off,n,a),.u cs=>(match Nat.ble (off+n) cs.length with
    |true=>.g (.a (mL a ((cs.drop off).take n)) [])
    |false=>.d)
   |_,_=>.d)
  |_=>.d)
 |_=>.d
def aln(E:bD)(s:Nat->aa)(p:Op):af di:=match p with
 | .indexAddr t x ix=>(match aN E s ix with
  | .c _ n=>(match(E.a t).c with
   | .a e=>(match aN E s x with
    | .d t vs=>(match Nat.beq t e && (E.a e).D with
     |true=>.I (decide (0<=n) &&decide (n<(vs.length:Int))) (.g (.a (.A (dm (E.a e) (vs.getD n.toNat .m)).V) []))
     |false=>.d)
    | .y t i g m=>.I (Nat.beq t e && (E.a e).D &&decide (0<=n) &&decide (n<(m:Int))) (.g (.a (.H i g n.toNat 0) []))
    | .K t i g o m=>.I (Nat.beq t e && (E.a e).D &&decide (0<=n) &&decide (n<(m:Int))) (.g (.a (.H i g (o+n.toNat) 0) []))
    | .G t i m=>.I (Nat.beq t e && (E.a e).D &&decide (0<=n) &&decide (n<(m:Int))) (.g (.a (.e i (n.toNat*(E.a e).a)) []))
    |_=>.d)
   | .d m e=>.I ((E.a e).D &&decide (0<=n) &&decide (n<(m:Int))) (match aN E s x with
    | .A cs=>.g (.a (.A (cs.drop (n.toNat*(E.a e).a))) [])
    | .e i j=>.g (.a (.e i (j+n.toNat*(E.a e).a)) [])
    | .H i g k j=>.g (.a (.H i g k (j+n.toNat*(E.a e).a)) [])
    |_=>.d)
   |_=>.d)
  |_=>.d)
 |_=>.d
def alo(E:bD)(s:Nat->aa)(p:Op):af di:=match p with
 | .index t x ix=>(match(E.a t).c,aN E s x,aN E s ix with
  | .b,.h b,.c _ n=>.I (decide (0<=n) &&decide (n<(b.length:Int))) (.g (.a (.c .u8 (b.getD n.toNat 0).toNat) []))
  | .d m e,.u cs,.c _ n=>(match(E.a e).D &&Nat.ble (m*(E.a e).a) cs.length with
   |true=>.I (decide (0<=n) &&decide (n<(m:Int))) (.g (.a (mL (E.a e).b ((cs.drop (n.toNat*(E.a e).a)).take (E.a e).a)) []))
   |false=>.d)
  |_,_,_=>.d)
 |_=>.d
def alp(E:bD)(h:Nat->aj)(s:Nat->aa)(p:Op):af di:=match p with
 | .lookup t x k ok=>(match(E.a t).c with
  | .g kt et=>
   let kv:=aN E s k
   (match(E.a kt).D && (E.a et).D &&cA (E.a kt) kv &&p8 (E.a kt)with
   |false=>.d
   |true=>
    let go:=λ(ks vs:List aa)=>(.c (iN (E.a kt) kv ks vs).isSome
      (.g (.a (sj ok (dm (E.a et) ((iN (E.a kt) kv ks vs).getD .m)) true) []))
      (.g (.a (sj ok (gw (E.a et)) false) [])):af di)
    (match aN E s x with
    | .F i=>(match h i with | .d _ t' ks vs=>(match Nat.beq t t' with |true=>go ks vs |false=>.d) |_=>.d)
    | .J t' ks vs=>(match Nat.beq t t' with |true=>go ks vs |false=>.d)
    | .E=>.g (.a (sj ok (gw (E.a et)) false) [])
    |_=>.d))
  |_=>.d)
 |_=>.d
def alq(E:bD)(h:Nat->aj)(s:Nat->aa)(p:Op):af di:=match p with
 | .mapUpdate t m k x=>(match(E.a t).c with
  | .g kt et=>(match(E.a kt).D && (E.a et).D &&cA (E.a kt) (aN E s k) &&p8 (E.a kt) &&cA (E.a et) (aN E s x) && (aN E s x).gx with
   |true=>(match aN E s m with
    | .F i=>(match h i with
     | .d false t' ks vs=>(match Nat.beq t t' with
      |true=>.g (.a .m [(i,.d false t' (fL (E.a kt) (aN E s k) (dm (E.a et) (aN E s x)) ks vs).1 (fL (E.a kt) (aN E s k) (dm (E.a et) (aN E s x)) ks vs).2)])
      |false=>.d)
     |_=>.d)
    |_=>.d)
   |false=>.d)
  |_=>.d)
 |_=>.d
def alr(E:bD)(s:Nat->aa)(fr:Nat)(p:Op):af di:=match p with
 | .range t x=>(match(E.a t).c,aN E s x with
  | .b,.h b=>.g (.a (.L fr) [(fr,.f false b 0)])
  |_,_=>.d)
 |_=>.d
def als(E:bD)(h:Nat->aj)(s:Nat->aa)(p:Op):af di:=match p with
 | .next x true=>(match aN E s x with
  | .L i=>(match h i with
   | .f false b k=>.c (Nat.blt k b.length) (.I (Nat.blt (b.getD k 0).toNat 128) (.g (.a (.q [.p true,.c .i64 k,.c .i32 (b.getD k 0).toNat]) [(i,.f false b (k+1))])))
    (.g (.a (.q [.p false]) []))
   |_=>.d)
  |_=>.d)
 |_=>.d
def alu(E:bD)(s:Nat->aa)(p:Op):af di:=match p with
 | .nilCheck x=>(match aN E s x with
  | .A cs=>.g (.a (.A cs) [])
  | .e i j=>.g (.a (.e i j) [])
  | .H i g k j=>.g (.a (.H i g k j) [])
  |_=>.d)
 |_=>.d
def alv(E:bD)(s:Nat->aa)(p:Op):af di:=match p with
 | .makeInterface t x=>(match(E.a t).D && !decide ((E.a t).c=.h)with
  |true=>.g (.a (.C t (aN E s x)) [])
  |false=>.d)
 |_=>.d
def alw(E:bD)(s:Nat->aa)(p:Op):af di:=match p with
 | .typeAssert x _ t ok=>(match(E.a t).D && !decide ((E.a t).c=.h)with
  |false=>.d
  |true=>(match aN E s x with
   | .M=>(match ok with |true=>.g (.a (.q [gw (E.a t),.p false]) []) |false=>.d)
   | .C u v=>(match Nat.beq u t with
    |true=>.g (.a (sj ok v true) [])
    |false=>(match ok with |true=>.g (.a (.q [gw (E.a t),.p false]) []) |false=>.d))
   |_=>.d))
 |_=>.d
def alx(E:bD)(s:Nat->aa)(p:Op):af di:=match p with
 | .extract t n=>(match aN E s t with
  | .q vs=>kC vs[n]? λv=>.g (.a v [])
  |_=>.d)
 |_=>.d
def aly(E:bD)(h:Nat->aj)(s:Nat->aa)(fr:Nat)(p:Op):af di:=match p with
 | .call c=>(match c.callee with
  | .builtin b=>I2 E h fr b c.argTypes (c.args.toList.map (aN E s))
  | .value f=>(match aN E s f with
   | .z f a b=>Cq E h fr f (a++E_ E.a c.argTypes.toList (c.args.toList.map (aN E s))++b)
   |_=>.d)
  |_=>.d)
 |_=>.d
def alz(E:bD)(s:Nat->aa)(p:Op):af di:=match p with
 | .panic x=>(match aN E s x with
  | .C t v=>(match v.gx with |true=>.g (.b (.C t v) []) |false=>.d)
  |_=>.d)
 |_=>.d
def I6(E:bD)(h:Nat->aj)(s:Nat->aa)(fr:Nat)(o:Oper):af di:=match o.op with
 | .move .. =>ak6 E s o.op
 | .assign .. =>ak7 E s fr o o.op
 | .pick .. =>ak8 E s o.op
 | .alloc .. =>ak9 E fr o.op
 | .box .. =>ak_ E s fr o.op
 | .build .. =>ak' E s o.op
 | .buildSlice .. =>ala E s fr o.op
 | .load .. =>alb E h s o.op
 | .store .. =>alc E h s o.op
 | .binOp .. =>ald E s o.op
 | .unOp .. =>ale E s o.op
 | .convert .. =>alf E h s o.op
 | .makeFunc .. =>alg E s o.op
 | .makeMap .. =>alh E fr o.op
 | .makeSlice .. =>ali E s fr o.op
 | .slice .. =>alj E s o.op
 | .fieldAddr .. =>alk E s o.op
 | .field .. =>alm E s o.op
 | .indexAddr .. =>aln E s o.op
 | .index .. =>alo E s o.op
 | .lookup .. =>alp E h s o.op
 | .mapUpdate .. =>alq E h s o.op
 | .range .. =>alr E s fr o.op
 | .next .. =>als E h s o.op
 | .nilCheck .. =>alu E s o.op
 | .makeInterface .. =>alv E s o.op
 | .typeAssert .. =>alw E s o.op
 | .extract .. =>alx E s o.op
 | .call .. =>aly E h s fr o.op
 | .panic .. =>alz E s o.op
 |_=>.d
def Fb(E:bD)(h:Nat->aj)(s:Nat->aa)(fr:Nat)(o:Oper):I6 E h s fr o=cj E h s fr o:=by
 unfold I6 cj;cases ho:o.op with
 |assign x=>cases x with
  |const v=>cases v with
   |slice a n k=>cases a<;>cases n<;>cases k<;>rfl
   |_=>rfl
  |_=>rfl
 |makeFunc f a b=>cases f<;>rfl
 |makeMap t r=>cases r<;>rfl
 |slice t x lo hi mx=>cases mx with
  |none=>rfl
  |some m=>cases lo<;>cases hi<;>rfl
 |next x k=>cases k<;>rfl
 |_=>rfl
def iO(s:Nat->aa)(d:Option Nat)(v:aa):Nat->aa:=match d with |some d=>bO s d v |none=>s
def I7(ops:List Oper):Nat->List Nat->Nat->List Nat
 |0,seen,_=>seen
 |n+1,seen,k=>match seen[k]? with
  |none=>seen
  |some i=>I7 ops n (gy seen (((ops[i]?).map λo=>(o.after.toList.filter (Region.binds .any)).map (·.on)).getD [])) (k+1)
def gX(ops:List Oper)(i:Nat):List Nat:=(I7 ops (ops.length+1) [i] 0)
structure iP where
 b:Nat->List Nat
 a:Nat->Option (List Nat)
def gb:iP:=⟨λ_=> [],λ_=>none⟩
def xO(base:Nat)(p hid:List Nat)(h:Nat->aj):Nat->aj:=λi=>(match(Nat.blt i base ||p.contains ((i-base)/64)) && !hid.contains i with |true=>h i |false=>.c)
def pk(ops:List Oper)(o:Oper):List Nat:=
 (o.op.operands.toList.filterMap λx=>match x with | .tmp t=>some t |_=>none)++(match o.guard with |some (i,_)=>((ops[i]?).bind (·.dst)).toList |none=> [])
def vL(mode:FuncId->List Bool)(o:Oper):Bool:=match o.op with
 | .store .. | .mapUpdate .. | .next .. =>true
 | .call c=>(match c.callee with | .builtin .len=>false | .builtin .max=>false | .builtin .min=>false | .builtin _=>true | .value (.func f)=>(mode f).any id | .value _=>true |_=>true)
 |_=>false
def pq(o:Oper):Bool:=match o.op with
 | .move _ | .assign _ | .pick .. | .build .. | .binOp .. | .unOp .. | .makeFunc .. | .slice .. | .fieldAddr .. | .field .. | .indexAddr .. | .index .. | .extract .. | .nilCheck _ | .makeInterface .. | .typeAssert .. | .alloc _ | .box .. | .buildSlice .. | .makeMap .. | .makeSlice .. | .range .. =>true
 | .call c=>(match c.callee with | .builtin .len=>true | .builtin .max=>true | .builtin .min=>true |_=>false)
 |_=>false
inductive gA where
 |a (s:bu) |b (v:aa) (s:bu)
def vM(l:List Nat)(s:Nat->aa):Nat->aa:=λt=>(match l.contains t with |true=>s t |false=>.m)
def jR(draw:Bool)(hd:iP)(ops:List Oper)(base j:Nat)(o:Oper)(h:Nat->aj):Nat->aj:=match draw with
 |false=>h
 |true=>(match pq o with |true=>λ_=>.c |false=>xO base (gX ops j) (hd.b j) h)
def oz(draw:Bool)(ops:List Oper)(o:Oper)(s:Nat->aa):Nat->aa:=match draw with |false=>s |true=>vM (pk ops o) s
def ZP(fr:Nat)(u:q6):Bool:=u.all λp=>Nat.ble fr p.1 &&Nat.blt p.1 (fr+64)
def Fc(l:Option (List Nat))(i:Nat):Bool:=match l with |none=>true |some l=>l.contains i
def I8(E:bD)(hd:iP)(j:Nat)(o:Oper)(fr:Nat)(view:Nat->aj)(u:q6):Bool:=ZP fr u || (vL E.e o && !pq o &&u.all λp=>(Nat.ble fr p.1 &&Nat.blt p.1 (fr+64)) || ((view p.1).D &&Fc (hd.a j) p.1))
def tZ(E:bD)(draw:Bool)(hd:iP)(ops:List Oper)(base j:Nat)(o:Oper)(s:bu):af gA:=
 (I6 E (jR draw hd ops base j o s.a) (oz draw ops o s.b) (base+64*j) o).U λx=>match x with
  | .a v u=>(match !draw ||I8 E hd j o (base+64*j) (jR draw hd ops base j o s.a) u with
   |true=>.g (.a {s with b:=iO s.b o.dst v,a:=bU s.a u})
   |false=>.d)
  | .b v u=>(match draw with |true=>.d |false=>.g (.b v {s with a:=bU s.a u}))
def nD(E:bD)(draw:Bool)(hd:iP)(ops:List Oper)(base:Nat)(s:bu)(j:Nat):af gA:=
 match ops[j]? with
 |none=>.g (.a s)
 |some o=>match o.guard with
  |none=>tZ E draw hd ops base j o s
  |some (i,want)=>match(ops[i]?).bind (·.dst)with
   |some d=>(match s.b d with
    | .p b=>.c (match want with |true=>b |false=> !b)
      (tZ E draw hd ops base j o {s with b:=bO s.b d (.p want)})
      (.g (.a {s with b:=iO (bO s.b d (.p !want)) o.dst (.q [])}))
    | .q []=>.g (.a {s with b:=iO s.b o.dst (.q [])})
    |_=>.d)
   |none=>.d
def c8(E:bD)(draw:Bool)(hd:iP)(ops:List Oper)(base:Nat):List Nat->bu->af gA
 | [],s=>.g (.a s)
 |j::r,s=>(nD E draw hd ops base s j).U λx=>match x with
  | .a s'=>c8 E draw hd ops base r s'
  | .b v s'=>.g (.b v s')
def zR(hd:iP)(i j:Nat):Bool:=match hd.a i with |some l=>l.all (hd.b j).contains |none=>false
def zS(mode:FuncId->List Bool)(hd:iP)(ops:List Oper)(i j:Nat)(a b:Oper):Bool:=
 (match a.dst with |some d=> !(pk ops b).contains d && !(b.dst==some d) |none=>true) &&
 (match b.dst with |some d=> !(pk ops a).contains d |none=>true) &&
 (((!vL mode a ||zR hd i j) && (!vL mode b ||zR hd j i)) ||pq a ||pq b)
def Ot(p:Nat->Nat->Bool)(n:Nat):Bool:=(List.range n).all λj=>(List.range j).all λi=>p i j
def ZQ(ops:List Oper):Bool:=(List.range ops.length).all λj=>((ops[j]?).map λo=>o.after.all λe=>Nat.blt e.on j).getD true
def ZR(ops:List Oper):Bool:=(List.range ops.length).all λj=>((ops[j]?).map λo=>o.after.toList.all λe=> !Region.binds .any e ||Nat.blt e.on j).getD true
def Ou(m:Region.Mode)(r:List Nat):List Edge->Nat
 | []=>0
 |e::l=>(match Region.binds m e with |true=>Nat.max (r.getD e.on 0+1) (Ou m r l) |false=>Ou m r l)
def Fe(m:Region.Mode)(ops:List Oper):Nat->List Nat->List Nat
 |0,r=>r
 |n+1,r=>Fe m ops n (ops.map λo=>Ou m r o.after.toList)
def I9(m:Region.Mode)(ops:List Oper)(r:List Nat):Bool:=(List.range ops.length).all λj=>((ops[j]?).map λo=>o.after.toList.all λe=> !Region.binds m e || (Nat.blt (r.getD e.on 0) (r.getD j 0) &&Nat.blt e.on ops.length)).getD true
def I_(m:Region.Mode)(ops:List Oper):Bool:=(I9 m ops (Fe m ops 8 [])) ||I9 m ops (Fe m ops 24 [])
def Ov(ops:List Oper):Bool:=ZQ ops || (ZR ops &&I_ .text ops &&I_ .gc ops)
def xP(mode:FuncId->List Bool)(hd:iP)(ops:List Oper):Bool:=
 Ov ops &&Ot (λi j=>(gX ops j).contains i || (match ops[i]?,ops[j]? with |some a,some b=>zS mode hd ops i j a b |_,_=>false)) ops.length
def vN(ops:List Oper)(s:bu):Nat->Operand->Option (List Nat)
 |0,_=>none
 |n+1,.tmp t=>(match ops.find? (λo=>match o.dst with |some d=>Nat.beq d t |none=>false)with
  |some o=>(match o.op with
   | .fieldAddr _ x _=>vN ops s n x
   | .indexAddr _ x _=>vN ops s n x
   | .nilCheck x=>vN ops s n x
   | .move x=>vN ops s n x
   | .load _ x=>(match vN ops s n x with |some l=>some (l.flatMap λi=>(s.a i).zL) |none=>none)
   | .binOp .. =>some []
   | .unOp .. =>some []
   | .call c=>(match c.callee,c.args.toList with
    | .builtin .append,x::_=>(match vN ops s n x with |some l=>some (l++ [s.c+64*ops.findIdx λo'=>match o'.dst with |some d=>Nat.beq d t |none=>false]) |none=>none)
    |_,_=>none)
   |_=>none)
  |none=>some (s.b t).Ck)
 |_,_=>some []
def ZS(ops:List Oper)(s:bu):List Operand->Option (List Nat)
 | []=>some []
 |x::r=>(match vN ops s 8 x,ZS ops s r with
  |some a,some b=>some (a++b)
  |_,_=>none)
def ZT(ops:List Oper)(s:bu)(j:Nat):Option (List Nat):=match ops[j]? with
 |some o=>(match o.op with
  | .store _ x _=>vN ops s 8 x
  | .mapUpdate _ x _ _=>vN ops s 8 x
  | .call c=>(match c.callee with
   | .value f=>(match ZS ops s (f::c.args.toList)with |some l=>some (me s.a l) |none=>none)
   |_=>none)
  |_=>none)
 |none=>none
def alA(mode:FuncId->List Bool)(ops:List Oper)(s:bu):iP := {
 b:=λj=>(List.range ops.length).flatMap λk=>(match Nat.beq j k || (gX ops j).contains k || (gX ops k).contains j || !((ops[k]?).map (vL mode)).getD false with
  |true=> []
  |false=>(match ZT ops s k with |some l=>l |none=> []))
 a:=ZT ops s }
def vO(o:Oper):Bool:=o.guard.isNone && (match o.op with | .move _ | .load .. | .pick .. | .fieldAddr .. =>true | .buildSlice _ _ ps=>Fa ps.toList | .call c=>(match c.callee with | .builtin .len=>true |_=>false) |_=>false)
def alB(o:Oper):Bool:=match o.op with | .call c=>(match c.callee with | .builtin _=>false |_=>true) |_=>false
def Ff(ops:List Oper)(j:Nat):Bool:=(match ops[j]? with |some o=>o.guard.isNone &&alB o |none=>false) &&
 (List.range ops.length).all λk=>Nat.beq k j || (gX ops k).contains j || (gX ops j).contains k || ((ops[k]?).map vO).getD false
def I'(ops:List Oper):Option Nat:=(List.range ops.length).find? (Ff ops)
def pr(ops:List Oper)(j:Nat):List Nat:=(List.range ops.length).filter λk=> !Nat.beq k j && !(gX ops k).contains j
def Fg(ops:List Oper):List Nat:=ops.filterMap (·.dst)
def Cr(ops:List Oper)(s:Nat->aa):Nat->aa:=λt=>(match(Fg ops).contains t with |true=>.m |false=>s t)
def vP(E:bD)(hd:iP)(ops:List Oper)(base j:Nat)(o:Oper)(s:bu):af gA:=
 (I6 E (jR true hd ops base j o s.a) (oz true ops o s.b) (base+64*j) o).U λx=>match x with
  | .a _ _=>.g (.a s)
  | .b v u=>.g (.b v {s with b:=Cr ops s.b,a:=bU s.a u})
def vQ(E:bD)(hd:iP)(ops:List Oper)(base:Nat)(s:bu):af gA:=match I' ops with
 |none=>.d
 |some j=>(match ops[j]? with
  |none=>.d
  |some o=>(c8 E true hd ops base (pr ops j) s).U λx=>match x with
   | .b _ _=>.d
   | .a sN=>(vP E hd ops base j o sN).U λy=>match y with
    | .a _=>c8 E true hd ops base (List.range ops.length) s
    | .b v s'=>.g (.b v s'))
def Ja(E:bD)(b:Bool)(ops:List Oper)(s:bu):iP:=match b with |true=>alA E.e ops s |false=>gb
def mM(keep:List Nat)(m:Nat)(s:bu):List Nat:=me s.a (List.range m++keep.flatMap λk=>(s.b k).Ck)
def jS(keep:List Nat)(m:Nat)(s:bu):List aa:=keep.map λk=>se s.a (zN m) (mM keep m s) (s.b k)
def gK(keep:List Nat)(m:Nat)(s:bu):List aj:=kB s.a (zN m) (mM keep m s)
def dx(keep:List Nat)(vs:List aa)(os:List aj):bu:=⟨fy .m (keep.zip vs),a_ os,os.length⟩
def cF:Code->Nat
 | .region id _ _=>id
 | .seq .skip b=>cF b
 | .seq a _=>cF a
 | .block _ b=>cF b
 | .loop b=>cF b
 | .scope b=>cF b
 | .cond _ a _=>cF a
 |_=>0
def kD(l:Nat)(rest:Code):Nat:=4096+64*cF rest+l
def Fh(s:Nat->aa):List Nat->List aa->Nat->aa
 |p::ps,v::vs=>Fh (bO s p v) ps vs
 |_,_=>s
def cy(E:bD)(m:Nat):Code->bu->af (aU×bu)
 | .skip,s=>.g (.b,s)
 | .region id ops draw,s=>(match draw &&E.g id && !xP E.e (Ja E (draw &&E.g id) ops.toList s) ops.toList with
  |true=>.d
  |false=>(match draw &&E.g id &&E.g (id+1000000)with
   |true=>vQ E (Ja E (draw &&E.g id) ops.toList s) ops.toList s.c s
   |false=>c8 E draw (Ja E (draw &&E.g id) ops.toList s) ops.toList s.c (List.range ops.toList.length) s).U λx=>match x with
   | .a s'=>.g (.b,{s' with c:=s.c+64*ops.toList.length})
   | .b v s'=>.g (.e v,{s' with c:=s.c+64*ops.toList.length}))
 | .seq a b,s=>(cy E m a s).U λx=>match x.1 with
  | .b=>cy E m b x.2
  |e=>.g (e,x.2)
 | .cond c t e,s=>(match aN E s.b c with
  | .p b=>.c b (cy E m t (match c with | .tmp d=>{s with b:=bO s.b d (.p true)} |_=>s)) (cy E m e (match c with | .tmp d=>{s with b:=bO s.b d (.p false)} |_=>s))
  |_=>.d)
 | .block id b,s=>(cy E m b s).U λx=>match x.1 with
  | .a i=>(match Nat.beq i id with |true=>.g (.b,x.2) |false=>.g (.a i,x.2))
  |e=>.g (e,x.2)
 | .loop b,s=>(E.d m (cF b) (jS (E.c (cF b)) m s) (gK (E.c (cF b)) m s)).U λr=>.g (r.1,dx (E.h (cF b)) r.2.1 r.2.2)
 | .exit id,s=>.g (.a id,s)
 | .label _,s=>.g (.b,s)
 | .scope b,s=>(cy E m b s).U λx=>match x.1 with
  | .d l=>(match findLabel b l with
   |some rest=>(E.d m (kD l rest) (jS (E.c (kD l rest)) m x.2) (gK (E.c (kD l rest)) m x.2)).U λr=>.g (r.1,dx (E.h (kD l rest)) r.2.1 r.2.2)
   |none=>.d)
  |e=>.g (e,x.2)
 | .rangeFunc g _ assign _,s=>(match aN E s.b g with
  | .z f [] eN=>(match aa.vI eN with
   | []=>(E.i f eN).U λitems=>(E.d m (cF assign) (.q items::jS (E.c (cF assign)) m s) (gK (E.c (cF assign)) m s)).U λr=>.g (r.1,dx (E.c (cF assign)) r.2.1 r.2.2)
   |_=>.d)
  |_=>.d)
 | .ret,s=>.g (.c,s)
 | .goto l,s=>.g (.d l,s)
 |_,_=>.d
def vR(E:bD)(s:bu):ResultVar->Option aa
 | .tmp t=>some (s.b t)
 | .cell t ty=>match Cn E.a s.a (s.b t)with
  |some cs=>(match(E.a ty).D &&Nat.ble (E.a ty).a cs.length with |true=>(match(E.a ty).b with |true=>some (.u (cs.take (E.a ty).a)) |false=>cs.head?) |false=>none)
  |none=>none
def xQ{α:Type}:List (Option α)->Option (List α)
 | []=>some []
 |some a::r=>(xQ r).map (a:: ·)
 |none::_=>none
def iQ(m:Nat)(s:bu)(l:List Nat):List Nat:=me s.a (List.range m++l)
def Ow(E:bD)(m:Nat)(own:Bool)(s:bu)(v:aa):af aC:=match own with
 |true=>.g (.a (se s.a (nB m) (iQ m s v.Ck) v) (kB s.a (nB m) (iQ m s v.Ck)))
 |false=>(match xN s.a (iQ m s []) (me s.a v.Ck)with
  |true=>.g (.a (tX E.a s.a zO v) (kB s.a (nB m) (iQ m s [])))
  |false=>.d)
def Fi(m:Nat)(s:bu)(v:aa):af aC:=.g (.b v (kB s.a (nB m) (iQ m s [])))
def sk(E:bD)(m:Nat)(own:Bool)(f:Func)(s:bu):af aC:=
 match xQ (f.results.toList.map (vR E s))with
 |some vs=>Ow E m own s (match vs with | [v]=>v |vs=>.q vs)
 |none=>.d
def j_(args:List aa)(ao:List aj):bu:=⟨vS args,a_ ao,ao.length⟩
where vS:List aa->Nat->aa
 | [],_=>.m
 |v::_,0=>v
 |_::r,n+1=>vS r n
def aI(E:bD)(own:Bool)(f:Func)(args:List aa)(ao:List aj):af aC:=
 match f.body with
 |some c=>(cy E ao.length c (j_ args ao)).U λx=>match x.1 with
  | .b=>sk E ao.length own f x.2
  | .c=>sk E ao.length own f x.2
  | .e v=>Fi ao.length x.2 v
  |_=>.d
 |none=>.d
def cB(E:bD)(m:Nat)(key:Nat)(b:Code)(vs:List aa)(os:List aj):af (aU×List aa×List aj):=
 (cy E m b (dx (E.c key) vs os)).U λx=>match x.1 with
  | .b=>.g (.b,jS (E.c key) m x.2,gK (E.c key) m x.2)
  |e=>.g (e,jS (E.h key) m x.2,gK (E.h key) m x.2)
def mN(E:bD)(m:Nat)(key:Nat)(rest:Code)(vs:List aa)(os:List aj):af (aU×List aa×List aj):=
 (cy E m rest (dx (E.c key) vs os)).U λx=>match x.1 with
  | .d l=>.g (.d l,jS (E.c key) m x.2,gK (E.c key) m x.2)
  |e=>.g (e,jS (E.h key) m x.2,gK (E.h key) m x.2)
def oA(E:bD)(m:Nat)(ps:List Nat)(assign body:Code)(x:aa)(vs:List aa)(os:List aj):af (aU×List aa×List aj):=
 match x with
 | .q xs=>(match Nat.beq xs.length ps.length &&os.all (λo=>Nat.beq o.V 0) &&Nat.ble m os.length with
  |true=>(cy E os.length assign ⟨Fh (dx (E.c (cF assign)) vs os).b ps xs,a_ os,os.length⟩).U λx1=>match x1.1 with
   | .b=>(cy E os.length body x1.2).U λx2=>match x2.1 with
    | .e _=>.d
    | .d _=>.d
    |e=>.g (e,jS (E.c (cF assign)) m ⟨(dx (E.c (cF assign)) vs os).b,x2.2.a,x2.2.c⟩,gK (E.c (cF assign)) m ⟨(dx (E.c (cF assign)) vs os).b,x2.2.a,x2.2.c⟩)
   |_=>.d
  |false=>.d)
 |_=>.d
end
end Go.AH
namespace Go.AH
open Go Go.RowKit
noncomputable section
variable{b o:Nat}{cs:List Value}{v:aa}{R R':aa->Value->Prop}{x:Value}{vs:List aa}{l:List Value}{k:bY}{ty:bz}{e:TypeId}{T:TypeId->bz}{r:aa}{y:Value}{w:World}{O:Nat->Prop}{w':World}{O':Nat->Prop}{a:aa}{c:Array Value}{α:Type}{z:Nat×Nat}{es:Array MapEntry}{clk:Nat}{t:TypeId}{P:Program}{op:BinOp}{ox oy:Operand}{ms:Array (String×TypeId)}{p q:Value}{lo hi:Option Operand}{kt:TypeId}{ok:Bool}
def bh:aa->Value->Prop:=λ_ _=>False
def dH(w:World)(b o:Nat)(cs:List Value):Prop:=∀(j:Nat)(u:Value),cs[j]? =some u->w.cell? ⟨b,o+j,none⟩=some u
def qa(a:Bool)(cs:List Value):Value:=match a with |true=>.agg cs.toArray |false=>cs.headD undef
def alC:aa->Bool | .u _=>true |_=>false
def Ox(T:TypeId->bz)(t:TypeId)(ks vs:List aa):Prop:=∀kt et,(T t).c=.g kt et->(∀k∈ks,cA (T kt) k=true)/\(∀v∈vs,cA (T et) v=true/\dm (T et) v=v)
mutual
def ax(T:TypeId->bz)(w:World)(O:Nat->Prop):aa->(aa->Value->Prop)->Value->Prop
 | .m,_,_=>True
 | .p b,_,x=>x=.bool b
 | .c k n,_,x=>x=.int k n
 | .h s,_,x=>∃b:ByteArray,x=.string b/\b.data.toList=s
 | .B,_,x=>x=.pointer none
 | .E,_,x=>x=.map none
 | .w,_,x=>x=.slice none 0 0
 | .N,_,x=>x=.nilFunc
 | .M,_,x=>x=.nilIface
 | .u cs,R,x=>∃a:Array Value,x=.agg a/\aF T w O cs R a.toList
 | .q cs,R,x=>∃a:Array Value,x=.tuple a/\aF T w O cs R a.toList
 | .d t vs,_,x=>∃a cap,x=.slice a vs.length cap/\vs.length<=cap/\(vs=[]\/∃b o,a=some ⟨b,o,none⟩/\b<w.heap.size/\¬O b/\bN T w O vs t b o)
 | .O t vs,_,x=>∃a,x=.slice a vs.length vs.length/\(vs=[]\/∃b o,a=some ⟨b,o,none⟩/\b<w.heap.size/\¬O b/\bN T w O vs t b o)
 | .A cs,_,x=>∃b o l,x=.pointer (some ⟨b,o,none⟩)/\b<w.heap.size/\¬O b/\dH w b o l/\aF T w O cs bh l
 | .J t ks vs,_,x=>∃(r:Nat)(es:Array MapEntry)(clk:Nat),x=.map (some r)/\r<w.heap.size/\¬O r/\w.heap[r]? =some (.map es clk)/\Ox T t ks vs/\aF T w O ks bh (es.toList.map (·.key))/\aF T w O vs bh (es.toList.map (·.val))
 | .z f a b,R,x=>∃p q:Array Value,x=.func (.func f) p q/\aF T w O a R p.toList/\aF T w O b R q.toList
 | .C t v,R,x=>∃y,x=.iface t y/\ax T w O v R y
 | .e i j,R,x=>R (.e i j) x
 | .y t i g n,R,x=>R (.y t i g n) x
 | .K t i g o n,R,x=>R (.K t i g o n) x
 | .H i g k j,R,x=>R (.H i g k j) x
 | .F i,R,x=>R (.F i) x
 | .G t i n,R,x=>R (.G t i n) x
 | .L i,R,x=>R (.L i) x
def aF(T:TypeId->bz)(w:World)(O:Nat->Prop):List aa->(aa->Value->Prop)->List Value->Prop
 | [],_,l=>l=[]
 |v::vs,R,l=>∃x r,l=x::r/\ax T w O v R x/\aF T w O vs R r
def bN(T:TypeId->bz)(w:World)(O:Nat->Prop):List aa->TypeId->Nat->Nat->Prop
 | [],_,_,_=>True
 |v::vs,t,b,o=>(cA (T t) v=true/\dm (T t) v=v)/\(∃cs:List Value,cs.length=(T t).a/\dH w b o cs/\ax T w O v bh (qa (T t).b cs))/\bN T w O vs t b (o+(T t).a)
end
section
variable{T:TypeId->bz}{w w':World}{O O':Nat->Prop}
structure cz(w w':World)(O O':Nat->Prop):Prop where
 c:w.heap.size<=w'.heap.size
 a:∀b,b<w.heap.size->¬O b->w'.heap[b]? =w.heap[b]?
 d:∀b,b<w.heap.size->¬O b->¬O' b
def dH.V(h:dH w b o cs)(hb:w'.heap[b]? =w.heap[b]?):dH w' b o cs:=by intro j u hj;rw[World.cell?_of_block (w:=w) hb];exact h j u hj
mutual
def ax.D(hk:cz w w' O O'):∀(v:aa)(R R':aa->Value->Prop)(x:Value),(∀r y,R r y->R' r y)->ax T w O v R x->ax T w' O' v R' x
 | .m,_,_,_,_,_=>trivial
 | .p _,_,_,_,_,h=>h
 | .c _ _,_,_,_,_,h=>h
 | .h _,_,_,_,_,h=>h
 | .B,_,_,_,_,h=>h
 | .E,_,_,_,_,h=>h
 | .w,_,_,_,_,h=>h
 | .N,_,_,_,_,h=>h
 | .M,_,_,_,_,h=>h
 | .u cs,R,R',_,hR,h=>by obtain⟨a,rfl,h⟩:=h;exact⟨a,rfl,aF.D hk cs R R' _ hR h⟩
 | .q cs,R,R',_,hR,h=>by obtain⟨a,rfl,h⟩:=h;exact⟨a,rfl,aF.D hk cs R R' _ hR h⟩
 | .d t vs,_,_,_,_,h=>by
  obtain⟨a,cap,rfl,hc,h⟩:=h;refine⟨a,cap,rfl,hc,?_⟩;rcases h with h | ⟨b,o,rfl,h1,h2,h3⟩
  ·exact .inl h
  ·exact .inr ⟨b,o,rfl,dJ h1 hk.c,hk.d b h1 h2,bN.D hk vs t b o (hk.a b h1 h2) h3⟩
 | .O t vs,_,_,_,_,h=>by
  obtain⟨a,rfl,h⟩:=h;refine⟨a,rfl,?_⟩;rcases h with h | ⟨b,o,rfl,h1,h2,h3⟩
  ·exact .inl h
  ·exact .inr ⟨b,o,rfl,dJ h1 hk.c,hk.d b h1 h2,bN.D hk vs t b o (hk.a b h1 h2) h3⟩
 | .A cs,_,_,_,_,h=>by obtain⟨b,o,l,rfl,h1,h2,h3,h4⟩:=h;exact⟨b,o,l,rfl,dJ h1 hk.c,hk.d b h1 h2,h3.V (hk.a b h1 h2),aF.D hk cs _ _ _ (λ_ _ h=>h) h4⟩
 | .J t ks vs,_,_,_,_,h=>by obtain⟨r,es,clk,rfl,h1,h2,h3,hd,h4,h5⟩:=h;exact⟨r,es,clk,rfl,dJ h1 hk.c,hk.d r h1 h2,(hk.a r h1 h2).trans h3,hd,aF.D hk ks _ _ _ (λ_ _ h=>h) h4,aF.D hk vs _ _ _ (λ_ _ h=>h) h5⟩
 | .z f a b,R,R',_,hR,h=>by obtain⟨p,q,rfl,h1,h2⟩:=h;exact⟨p,q,rfl,aF.D hk a R R' _ hR h1,aF.D hk b R R' _ hR h2⟩
 | .C t v,R,R',_,hR,h=>by obtain⟨y,rfl,h⟩:=h;exact⟨y,rfl,ax.D hk v R R' _ hR h⟩
 | .e ..,_,_,_,hR,h=>hR _ _ h
 | .y ..,_,_,_,hR,h=>hR _ _ h
 | .K ..,_,_,_,hR,h=>hR _ _ h
 | .H ..,_,_,_,hR,h=>hR _ _ h
 | .F ..,_,_,_,hR,h=>hR _ _ h
 | .G ..,_,_,_,hR,h=>hR _ _ h
 | .L ..,_,_,_,hR,h=>hR _ _ h
def aF.D(hk:cz w w' O O'):∀(vs:List aa)(R R':aa->Value->Prop)(l:List Value),(∀r y,R r y->R' r y)->aF T w O vs R l->aF T w' O' vs R' l
 | [],_,_,_,_,h=>h
 |v::vs,R,R',_,hR,h=>by obtain⟨x,r,rfl,h1,h2⟩:=h;exact⟨x,r,rfl,ax.D hk v R R' x hR h1,aF.D hk vs R R' r hR h2⟩
def bN.D(hk:cz w w' O O'):∀(vs:List aa)(t b o:Nat),w'.heap[b]? =w.heap[b]? ->bN T w O vs t b o->bN T w' O' vs t b o
 | [],_,_,_,_,_=>trivial
 |v::vs,t,b,o,hb,h=>by obtain⟨h1,⟨cs,h2,h3,h4⟩,h5⟩:=h;exact⟨h1,⟨cs,h2,h3.V hb,ax.D hk v _ _ _ (λ_ _ h=>h) h4⟩,bN.D hk vs t b _ hb h5⟩
end
mutual
def ax.Fj{φ:aa->aa}:∀(v:aa)(R R':aa->Value->Prop)(x:Value),(∀r y,R r y->ax T w O (φ r) R' y)->ax T w O v R x->ax T w O (v.dY φ) R' x
 | .m,_,_,_,_,_=>by simp[aa.dY,ax]
 | .p _,_,_,_,_,h=>by simpa[aa.dY,ax] using h
 | .c _ _,_,_,_,_,h=>by simpa[aa.dY,ax] using h
 | .h _,_,_,_,_,h=>by simpa[aa.dY,ax] using h
 | .B,_,_,_,_,h=>by simpa[aa.dY,ax] using h
 | .E,_,_,_,_,h=>by simpa[aa.dY,ax] using h
 | .w,_,_,_,_,h=>by simpa[aa.dY,ax] using h
 | .N,_,_,_,_,h=>by simpa[aa.dY,ax] using h
 | .M,_,_,_,_,h=>by simpa[aa.dY,ax] using h
 | .u cs,R,R',_,hR,h=>by obtain⟨a,rfl,h⟩:=h;rw[aa.dY];exact⟨a,rfl,aF.zT cs R R' _ hR h⟩
 | .q cs,R,R',_,hR,h=>by obtain⟨a,rfl,h⟩:=h;rw[aa.dY];exact⟨a,rfl,aF.zT cs R R' _ hR h⟩
 | .d t vs,_,_,_,_,h=>by simpa[aa.dY,ax] using h
 | .O t vs,_,_,_,_,h=>by simpa[aa.dY,ax] using h
 | .A cs,_,_,_,_,h=>by simpa[aa.dY,ax] using h
 | .J t ks vs,_,_,_,_,h=>by simpa[aa.dY,ax] using h
 | .z f a b,R,R',_,hR,h=>by obtain⟨p,q,rfl,h1,h2⟩:=h;rw[aa.dY];exact⟨p,q,rfl,aF.zT a R R' _ hR h1,aF.zT b R R' _ hR h2⟩
 | .C t v,R,R',_,hR,h=>by obtain⟨y,rfl,h⟩:=h;rw[aa.dY];exact⟨y,rfl,ax.Fj v R R' _ hR h⟩
 | .e ..,_,_,_,hR,h=>by rw[aa.dY];exact hR _ _ h
 | .y ..,_,_,_,hR,h=>by rw[aa.dY];exact hR _ _ h
 | .K ..,_,_,_,hR,h=>by rw[aa.dY];exact hR _ _ h
 | .H ..,_,_,_,hR,h=>by rw[aa.dY];exact hR _ _ h
 | .F ..,_,_,_,hR,h=>by rw[aa.dY];exact hR _ _ h
 | .G ..,_,_,_,hR,h=>by rw[aa.dY];exact hR _ _ h
 | .L ..,_,_,_,hR,h=>by rw[aa.dY];exact hR _ _ h
def aF.zT{φ:aa->aa}:∀(vs:List aa)(R R':aa->Value->Prop)(l:List Value),(∀r y,R r y->ax T w O (φ r) R' y)->aF T w O vs R l->aF T w O (aa.nz φ vs) R' l
 | [],_,_,_,_,h=>by simpa[aa.nz,aF] using h
 |v::vs,R,R',_,hR,h=>by obtain⟨x,r,rfl,h1,h2⟩:=h;rw[aa.nz];exact⟨x,r,rfl,ax.Fj v R R' x hR h1,aF.zT vs R R' r hR h2⟩
end
mutual
def ax.I:∀(v:aa)(R R':aa->Value->Prop)(x:Value),(∀r y,(∀i∈r.dP,i∈v.dP)->R r y->R' r y)->ax T w O v R x->ax T w O v R' x
 | .m,_,_,_,_,_=>trivial
 | .p _,_,_,_,_,h=>h
 | .c _ _,_,_,_,_,h=>h
 | .h _,_,_,_,_,h=>h
 | .B,_,_,_,_,h=>h
 | .E,_,_,_,_,h=>h
 | .w,_,_,_,_,h=>h
 | .N,_,_,_,_,h=>h
 | .M,_,_,_,_,h=>h
 | .u cs,R,R',_,hR,h=>by obtain⟨a,rfl,h⟩:=h;exact⟨a,rfl,aF.vT cs R R' _ (λr y h=>hR r y (λi hi=>by rw[aa.dP];exact h i hi)) h⟩
 | .q cs,R,R',_,hR,h=>by obtain⟨a,rfl,h⟩:=h;exact⟨a,rfl,aF.vT cs R R' _ (λr y h=>hR r y (λi hi=>by rw[aa.dP];exact h i hi)) h⟩
 | .d t vs,_,_,_,_,h=>h
 | .O t vs,_,_,_,_,h=>h
 | .A cs,_,_,_,_,h=>h
 | .J t ks vs,_,_,_,_,h=>h
 | .z f a b,R,R',_,hR,h=>by obtain⟨p,q,rfl,h1,h2⟩:=h;exact⟨p,q,rfl,aF.vT a R R' _ (λr y h=>hR r y (λi hi=>by rw[aa.dP];exact List.mem_append.2 (.inl (h i hi)))) h1,aF.vT b R R' _ (λr y h=>hR r y (λi hi=>by rw[aa.dP];exact List.mem_append.2 (.inr (h i hi)))) h2⟩
 | .C t v,R,R',_,hR,h=>by obtain⟨y,rfl,h⟩:=h;exact⟨y,rfl,ax.I v R R' _ (λr y h=>hR r y (λi hi=>by rw[aa.dP];exact h i hi)) h⟩
 | .e ..,_,_,_,hR,h=>hR _ _ (λ_ h=>h) h
 | .y ..,_,_,_,hR,h=>hR _ _ (λ_ h=>h) h
 | .K ..,_,_,_,hR,h=>hR _ _ (λ_ h=>h) h
 | .H ..,_,_,_,hR,h=>hR _ _ (λ_ h=>h) h
 | .F ..,_,_,_,hR,h=>hR _ _ (λ_ h=>h) h
 | .G ..,_,_,_,hR,h=>hR _ _ (λ_ h=>h) h
 | .L ..,_,_,_,hR,h=>hR _ _ (λ_ h=>h) h
def aF.vT:∀(vs:List aa)(R R':aa->Value->Prop)(l:List Value),(∀r y,(∀i∈r.dP,i∈aa.jD vs)->R r y->R' r y)->aF T w O vs R l->aF T w O vs R' l
 | [],_,_,_,_,h=>h
 |v::vs,R,R',_,hR,h=>by obtain⟨x,r,rfl,h1,h2⟩:=h;exact⟨x,r,rfl,ax.I v R R' x (λr y h=>hR r y (λi hi=>by rw[aa.jD];exact List.mem_append.2 (.inl (h i hi)))) h1,aF.vT vs R R' r (λr y h=>hR r y (λi hi=>by rw[aa.jD];exact List.mem_append.2 (.inr (h i hi)))) h2⟩
end
mutual
def ax.V:∀(v:aa)(R:aa->Value->Prop)(x:Value),v.lE=true->ax T w O v R x->ax T w' O' v R x
 | .m,_,_,_,_=>trivial
 | .p _,_,_,_,h=>h
 | .c _ _,_,_,_,h=>h
 | .h _,_,_,_,h=>h
 | .B,_,_,_,h=>h
 | .E,_,_,_,h=>h
 | .w,_,_,_,h=>h
 | .N,_,_,_,h=>h
 | .M,_,_,_,h=>h
 | .u cs,R,_,hf,h=>by obtain⟨a,rfl,h⟩:=h;rw[aa.lE]at hf;exact⟨a,rfl,aF.Cs cs R _ hf h⟩
 | .q cs,R,_,hf,h=>by obtain⟨a,rfl,h⟩:=h;rw[aa.lE]at hf;exact⟨a,rfl,aF.Cs cs R _ hf h⟩
 | .d t vs,_,_,hf,_=>by simp[aa.lE]at hf
 | .O t vs,_,_,hf,_=>by simp[aa.lE]at hf
 | .A cs,_,_,hf,_=>by simp[aa.lE]at hf
 | .J t ks vs,_,_,hf,_=>by simp[aa.lE]at hf
 | .z f a b,R,_,hf,h=>by obtain⟨p,q,rfl,h1,h2⟩:=h;rw[aa.lE,au]at hf;exact⟨p,q,rfl,aF.Cs a R _ hf.1 h1,aF.Cs b R _ hf.2 h2⟩
 | .C t v,R,_,hf,h=>by obtain⟨y,rfl,h⟩:=h;rw[aa.lE]at hf;exact⟨y,rfl,ax.V v R _ hf h⟩
 | .e ..,_,_,_,h=>h
 | .y ..,_,_,_,h=>h
 | .K ..,_,_,_,h=>h
 | .H ..,_,_,_,h=>h
 | .F ..,_,_,_,h=>h
 | .G ..,_,_,_,h=>h
 | .L ..,_,_,_,h=>h
def aF.Cs:∀(vs:List aa)(R:aa->Value->Prop)(l:List Value),aa.sd vs=true->aF T w O vs R l->aF T w' O' vs R l
 | [],_,_,_,h=>h
 |v::vs,R,_,hf,h=>by obtain⟨x,r,rfl,h1,h2⟩:=h;rw[aa.sd,au]at hf;exact⟨x,r,rfl,ax.V v R x hf.1 h1,aF.Cs vs R r hf.2 h2⟩
end
def ax.alD(h:ax T w O v R x)(hn:v.gx=true)(hR:∀r y,R r y->r.dP≠ []):ax T w O v R' x:=by
 refine ax.I v R R' x (λr y hi hr=> ?_) h;have he:v.dP=[]:=by simpa[aa.gx] using hn
 cases hq:r.dP with
 |nil=>exact absurd hq (hR r y hr)
 |cons i l=>have:=hi i (by rw[hq];simp);rw[he]at this;cases this
def aF.I:∀{l:List Value},aF T w O vs R l->l.length=vs.length:=by
 induction vs with
 |nil=>intro l h;rw[show l=[]from h];rfl
 |cons v vs ih=>intro l h;obtain⟨x,r,rfl,_,h2⟩:=h;simp[ih h2]
def Oy{φ:aa->aa}:∀(vs:List aa),(aa.nz φ vs).length=vs.length
 | []=>by simp[aa.nz]
 |v::vs=>by rw[aa.nz,eM,eM,Oy vs]
def aF.Jb(h:aF T w O vs R l):aF T w O vs R (l.take vs.length):=by rw[pL (by rw[h.I];exact bj _)];exact h
def aF.U{R:aa->Value->Prop}:∀{vs us:List aa}{l m:List Value},aF T w O vs R l->aF T w O us R m->aF T w O (vs++us) R (l++m)
 | [],_,_,_,h,k=>by rw[h];exact k
 |v::vs,us,_,m,h,k=>by obtain⟨x,r,rfl,h1,h2⟩:=h;exact⟨x,r++m,rfl,h1,aF.U h2 k⟩
def aF.V{R:aa->Value->Prop}:∀{vs:List aa}{l:List Value}(n:Nat),aF T w O vs R l->aF T w O (vs.drop n) R (l.drop n)
 |_,_,0,h=>by simpa using h
 | [],_,n+1,h=>by rw[h];exact rfl
 |v::vs,_,n+1,h=>by obtain⟨x,r,rfl,_,h2⟩:=h;exact aF.V n h2
def aF.so{R:aa->Value->Prop}:∀{vs:List aa}{l:List Value}(n:Nat),aF T w O vs R l->aF T w O (vs.take n) R (l.take n)
 |_,_,0,_=>rfl
 | [],_,n+1,h=>by rw[h];exact rfl
 |v::vs,_,n+1,h=>by obtain⟨x,r,rfl,h1,h2⟩:=h;exact⟨x,r.take n,rfl,h1,aF.so n h2⟩
def aF.vU{R:aa->Value->Prop}:∀{vs:List aa}{l:List Value}(n:Nat)(v:aa),aF T w O vs R l->vs[n]? =some v->∃x,l[n]? =some x/\ax T w O v R x
 | [],_,_,_,_,hv=>by simp at hv
 |u::vs,_,0,v,h,hv=>by obtain⟨x,r,rfl,h1,_⟩:=h;simp at hv;subst hv;exact⟨x,rfl,h1⟩
 |u::vs,_,n+1,v,h,hv=>by obtain⟨x,r,rfl,_,h2⟩:=h;obtain⟨y,h3,h4⟩:=aF.vU n v h2 (by simpa using hv);exact⟨y,by simpa using h3,h4⟩
def aF.ZU{R:aa->Value->Prop}:∀{vs:List aa}{l:List Value},l.length=vs.length->(∀(n:Nat)(v:aa)(x:Value),vs[n]? =some v->l[n]? =some x->ax T w O v R x)->aF T w O vs R l
 | [],l,h,_=>by
  have:l=[]:=by simpa using h
  exact this
 |v::vs,[],h,_=>by simp at h
 |v::vs,x::r,h,il=>⟨x,r,rfl,il 0 v x rfl rfl,aF.ZU (by simpa using h) (λn u y h1 h2=>il (n+1) u y (by simpa using h1) (by simpa using h2))⟩
def ax.ZV(h:ax T w O v R x)(hf:dX k v=true):ax T w O (lg k v) R x:=by
 cases k<;>cases v<;>simp[dX]at hf<;>first
  |exact h
  | (have h:x=.slice none 0 0:=h;subst h;exact⟨none,0,rfl,bj _,.inl rfl⟩)
  | (subst hf;exact h)
  | (rename_i e e' vs;rcases hf with hf |hf;(subst hf;exact h);(subst hf;exact h))
def aF.Oz{R:aa->Value->Prop}:∀{ks:List bY}{cs:List aa}{l:List Value}{j:Nat}{v:aa},aF T w O cs R l->bT ks cs=true->(∀i,v.D (j+i)=cs.getD i .m)->aF T w O (gJ ks j v) R l
 | [],[],_,_,_,h,_,_=>h
 | [],_::_,_,_,_,_,hf,_=>by simp[bT]at hf
 |_::_,[],_,_,_,_,hf,_=>by simp[bT]at hf
 |k::ks,c::cs,_,j,v,h,hf,hv=>by
  obtain⟨x,r,rfl,h1,h2⟩:=h;rw[bT,au]at hf;have h0:=hv 0;rw[lW,XH]at h0;refine⟨x,r,rfl,?_,aF.Oz (j:=j+1) h2 hf.2 (λi=> ?_)⟩
  ·rw[h0];exact h1.ZV hf.1
  ·have:=hv (i+1);rw[XI]at this;rw[<-this];congr 1
   omega
def ax.Fk(h:ax T w O v R x)(hf:cA ty v=true):ax T w O (AH.dm ty v) R x:=by
 obtain⟨size,agg,bytes,kinds,d⟩:=ty;cases agg with
 |true=>cases v<;>simp[cA]at hf;rename_i cs;obtain⟨a,rfl,h⟩:=h;exact⟨a,rfl,aF.Oz h hf (λi=>by simp[aa.D,aa.V])⟩
 |false=>
  match kinds,hf with
  | [k],hf=>exact h.ZV hf
  | [],hf=>simp[cA]at hf
  |_::_::_,hf=>simp[cA]at hf
def OA(k:bY)(v:aa):lg k (lg k v)=lg k v:=by cases k<;>cases v<;>rfl
def ZW:∀(ks:List bY)(j:Nat)(v:aa),(gJ ks j v).length=ks.length
 | [],_,_=>rfl
 |_::ks,j,v=>by simp[gJ,ZW ks]
def OB:∀(ks:List bY)(j:Nat)(v:aa)(i:Nat)(k:bY),ks[i]? =some k->(gJ ks j v)[i]? =some (lg k (v.D (j+i)))
 | [],_,_,_,_,h=>by simp at h
 |k::ks,j,v,0,k',h=>by simp at h;subst h;simp[gJ]
 |k::ks,j,v,i+1,k',h=>by
  simp at h;simp only[gJ,El];rw[OB ks (j+1) v i k' h];congr 3
  omega
def ZX:∀(ks:List bY)(j j':Nat)(v v':aa),(∀i k,ks[i]? =some k->lg k (v.D (j+i))=lg k (v'.D (j'+i)))->gJ ks j v=gJ ks j' v'
 | [],_,_,_,_,_=>rfl
 |k::ks,j,j',v,v',h=>by
  have h0:=h 0 k rfl;rw[lW,lW]at h0;rw[gJ,gJ,h0];congr 1
  refine ZX ks (j+1) (j'+1) v v' (λi k' hk=> ?_);have:=h (i+1) k' (by simpa using hk);rw[show j+1+i=j+(i+1)from ab,show j'+1+i=j'+(i+1)from ab];exact this
def Jc(ty:bz)(v:aa):AH.dm ty (AH.dm ty v)=AH.dm ty v:=by
 obtain⟨size,agg,bytes,kinds,d⟩:=ty;cases agg with
 |true=>
  show aa.u (gJ kinds 0 (.u (gJ kinds 0 v)))=.u (gJ kinds 0 v);congr 1
  refine ZX _ _ _ _ _ (λi k hk=> ?_);rw[gF];simp only[aa.D,aa.V];rw[dD,OB _ _ _ i k hk,gF,lr];exact OA k _
 |false=>
  match kinds with
  | [k]=>exact OA k v
  | []=>rfl
  |_::_::_=>rfl
def ax.OC(h:ax T w O v R x)(hs:v.pj=true)(hR:∀r y,R r y->y.oneCell'=true):x.oneCell'=true:=by
 cases v<;>simp[aa.pj]at hs
 case p b=>rw[show x=_ from h];rfl
 case c k n=>rw[show x=_ from h];rfl
 case h s=>obtain⟨b,rfl,_⟩:=h;rfl
 case B=>rw[show x=_ from h];rfl
 case E=>rw[show x=_ from h];rfl
 case w=>rw[show x=_ from h];rfl
 case O t vs=>obtain⟨a,rfl,_⟩:=h;rfl
 case N=>rw[show x=_ from h];rfl
 case M=>rw[show x=_ from h];rfl
 case d t vs=>obtain⟨a,c,rfl,_⟩:=h;rfl
 case A cs=>obtain⟨b,o,l,rfl,_⟩:=h;rfl
 case J t ks vs=>obtain⟨r,es,clk,rfl,_⟩:=h;rfl
 case z f a b=>obtain⟨p,q,rfl,_⟩:=h;rfl
 case C t v=>obtain⟨y,rfl,_⟩:=h;rfl
 all_goals exact hR _ _ h
def Fl(h:dX k v=true):v.pj=true:=by cases k<;>cases v<;>simp[dX]at h<;>rfl
def ZY(h:dX k v=true):dX k (lg k v)=true:=by cases k<;>cases v<;>simp_all [dX,lg]
end
def oB:bY->Value->Bool
 | .d,.bool b=> !b
 | .a k,.int k' n=>decide (k=k') &&decide (n=0)
 | .b,.string s=>s.data.toList.isEmpty
 | .c _,.slice none 0 0=>true
 | .f,.pointer none=>true
 | .g,.map none=>true
 | .h,.nilFunc=>true
 | .i,.nilIface=>true
 |_,_=>false
def gL:List bY->List Value->Bool
 | [],[]=>true
 |k::ks,v::vs=>oB k v &&gL ks vs
 |_,_=>false
def zU(P:Program)(t:TypeId):Bool:=match P.underlying t with |some (.struct _)=>true |some (.array ..)=>true |_=>false
def qb(P:Program)(t:TypeId):Option bY:=match P.underlying t with |some .bool=>some .d |some (.int k)=>some (.a k) |some .string=>some .b |_=>none
def sq(P:Program)(off:Nat):List Field->Option (List bY)
 | []=>some []
 |f::r=>match qb P f.type with
  |some k=>if f.name≠ "_" /\f.offset=off then(sq P (off+1) r).map (k:: ·)else none
  |none=>none
def mO(P:Program)(t:TypeId)(ty:bz):Bool:=match P.underlying t,ty.c with
 |some (.struct fs),.f gs=>ty.b &&decide (gs=fs.toList.map λf=>(f.offset,P.cellsOf f.type,zU P f.type)) &&fs.toList.all (λf=>(P.info? f.type).isSome && (P.underlying f.type).isSome &&decide (P.cellsOf f.type≠0))
   && (!ty.f || (decide (sq P 0 fs.toList=some ty.d) && !P.stoodInHeld t && !P.eqGuardType P.depth t))
 |some (.slice e),.a e'=> !ty.b &&decide (e=e')
 |some (.array n e),.d n' e'=>ty.b && !ty.f &&decide (n=n') &&decide (e=e') &&decide (P.cellsOf e≠0) && (P.info? e).isSome &&decide (2<=n)
 |some (.map k e),.g k' e'=> !ty.b &&decide (k=k') &&decide (e=e')
 |some (.pointer e),.l e'=> !ty.b &&decide (e=e')
 |some .string,.b=> !ty.b &&decide (ty.d=[.b])
 |some (.int k),.c k'=> !ty.b &&decide (k=k') &&decide (ty.d=[.a k])
 |some .bool,.i=> !ty.b &&decide (ty.d=[.d])
 |some (.func ..),.m=> !ty.b
 |some (.interface _),.h=> !ty.b
 |_,_=>false
def Jd(P:Program)(t:TypeId)(ty:bz):Bool:=match P.info? t with
 |none=>false
 |some i=>decide (i.size=ty.a) &&decide (i.bytes=ty.e) &&decide (0<ty.a/\ty.a<=256) &&decide (ty.e<=32768) &&decide (ty.d.length=ty.a) &&mO P t ty
   && (match i.zero with
    |some (.agg z)=>ty.b &&gL ty.d z.toList
    |some z=> !ty.b &&gL ty.d [z]
    |none=>false)
def cH(P:Program)(T:TypeId->bz):Prop:=∀t,(T t).D=true->Jd P t (T t)=true
section
variable{P:Program}{T:TypeId->bz}{t:TypeId}
structure dn(P:Program)(t:TypeId)(ty:bz):Prop where
 j:∃i z,P.info? t=some i/\i.size=ty.a/\i.bytes=ty.e/\i.zero=some z/\gL ty.d z.cells.toList=true/\(ty.b=true->∃a,z=.agg a)/\(ty.b=false->z.cells= #[z])
 m:0<ty.a
 q:ty.a<=256
 p:ty.e<=32768
 o:ty.d.length=ty.a
 g:mO P t ty=true
def dn.alE(h:Jd P t (T t)=true):dn P t (T t):=by
 unfold Jd at h;cases hi:P.info? t with
 |none=>rw[hi]at h;cases h
 |some i=>
  rw[hi]at h;simp only[au,bC]at h;obtain⟨⟨⟨⟨⟨⟨h1,h2⟩,h3⟩,h4⟩,h5⟩,h6⟩,h7⟩:=h;refine⟨?_,h3.1,h3.2,h4,h5,h6⟩;split at h7
  ·rename_i z hz;rw[au]at h7;exact⟨i,.agg z,hi,h1,h2,hz,h7.2,λ_=>⟨z,rfl⟩,λh=>by rw[h]at h7;simp at h7⟩
  ·rename_i z hn hz;rw[au,kr]at h7;have hc:z.cells= #[z]:=by cases z<;>first |rfl | (exact absurd rfl (hn _))
   exact⟨i,z,hi,h1,h2,hz,by rw[hc];exact h7.2,λh=>by rw[h]at h7;simp at h7,λ_=>hc⟩
  ·cases h7
def cH.D(hT:cH P T)(h:(T t).D=true):dn P t (T t):=.alE (hT t h)
def dn.D(h:dn P t ty)(w:World):(sizeOf t).run P w=.ok ty.a w:=by obtain⟨i,z,hi,hs,_⟩:=h.j;simp[sizeOf,typeInfo,hi,hs]
def dn.alF(h:dn P t ty):P.cellsOf t=ty.a:=by obtain⟨i,z,hi,hs,_⟩:=h.j;simp[Program.cellsOf,hi,hs]
def dn.Ct(h:dn P t ty)(w:World):(isAgg t).run P w=.ok ty.b w:=by
 have hd:=h.g;unfold mO at hd;split at hd
 all_goals first
  | (exact absurd hd av)
  | (rename_i hu hq;simp only[au,kr]at hd;simp[isAgg,dR hu,hd])
def dn.ZZ(h:dn P t ty)(w:World):∃z,(zeroValue t).run P w=.ok z w/\gL ty.d z.cells.toList=true/\(ty.b=true->∃a,z=.agg a)/\(ty.b=false->z.cells= #[z]):=by obtain⟨i,z,hi,_,_,hz,h1,h2,h3⟩:=h.j;exact⟨z,by simp[zeroValue,typeInfo,hi,hz],h1,h2,h3⟩
def dn.I(h:dn P t ty)(hd:ty.c=.a e):P.underlying t=some (.slice e)/\ty.b=false:=by have:=h.g;unfold mO at this;split at this<;>rename_i hu hq<;>simp_all
def dn.zV{gs:List (Nat×Nat×Bool)}(h:dn P t ty)(hd:ty.c=.f gs):∃fs,P.underlying t=some (.struct fs)/\gs=(fs.toList.map λf=>(f.offset,P.cellsOf f.type,zU P f.type))/\ty.b=true/\
  (∀f∈fs.toList,(P.info? f.type).isSome=true/\(P.underlying f.type).isSome=true/\P.cellsOf f.type≠0)/\(ty.f=true->sq P 0 fs.toList=some ty.d/\P.stoodInHeld t=false/\P.eqGuardType P.depth t=false):=by
 have h0:=h.g;unfold mO at h0;split at h0<;>rename_i hu hq<;>first | (exact absurd h0 av) |skip
 all_goals (rw[hd]at hq;simp at hq)
 subst hq;simp only[au,nh,kr,bC,dS,ne_eq]at h0;obtain⟨⟨⟨h1,h2⟩,h3⟩,h4⟩:=h0;refine⟨_,hu,h2,h1,λf hf=>⟨(h3 f hf).1.1,(h3 f hf).1.2,(h3 f hf).2⟩,λhe=> ?_⟩;rcases h4 with h4 |h4
 ·rw[he]at h4;cases h4
 ·exact⟨h4.1.1,h4.1.2,h4.2⟩
def dn.Je{n:Nat}(h:dn P t ty)(hd:ty.c=.d n e):P.underlying t=some (.array n e)/\ty.b=true/\P.cellsOf e≠0/\(P.info? e).isSome=true/\2<=n:=by
 have h0:=h.g;unfold mO at h0;split at h0<;>rename_i hu hq<;>first | (exact absurd h0 av) |skip
 all_goals (rw[hd]at hq;simp at hq)
 obtain⟨rfl,rfl⟩:=hq;simp only[au,kr,bC,ne_eq]at h0;obtain⟨⟨⟨⟨⟨⟨h1,h2⟩,rfl⟩,rfl⟩,h5⟩,h6⟩,h7⟩:=h0;exact⟨hu,h1,h5,h6,h7⟩
def dn.OD{k:TypeId}(h:dn P t ty)(hd:ty.c=.g k e):P.underlying t=some (.map k e):=by have:=h.g;unfold mO at this;split at this<;>rename_i hu hq<;>simp_all
def dn.alG(h:dn P t ty)(hd:ty.c=.l e):P.underlying t=some (.pointer e):=by have:=h.g;unfold mO at this;split at this<;>rename_i hu hq<;>simp_all
def dn.Cu(h:dn P t ty)(hd:ty.c=.b):P.underlying t=some .string/\ty.b=false/\ty.d=[.b]:=by have:=h.g;unfold mO at this;split at this<;>rename_i hu hq<;>simp_all
def dn.OE{k:IntKind}(h:dn P t ty)(hd:ty.c=.c k):P.underlying t=some (.int k)/\ty.b=false/\ty.d=[.a k]:=by have:=h.g;unfold mO at this;split at this<;>rename_i hu hq<;>simp_all
def dn.OF(h:dn P t ty)(hd:ty.c=.i):P.underlying t=some .bool/\ty.b=false/\ty.d=[.d]:=by have:=h.g;unfold mO at this;split at this<;>rename_i hu hq<;>simp_all
def dn.alH(h:dn P t ty)(hd:ty.c=.m):∃a b c,P.underlying t=some (.func a b c):=by have:=h.g;unfold mO at this;split at this<;>rename_i hu hq<;>simp_all
def dn.Z0(h:dn P t ty)(hd:ty.c=.h):∃ms,P.underlying t=some (.interface ms):=by have:=h.g;unfold mO at this;split at this<;>rename_i hu hq<;>simp_all
def dn.Z1(h:dn P t ty):(P.underlying t).isSome=true:=by have:=h.g;unfold mO at this;split at this<;>rename_i hu hq<;>simp_all
def dn.V(h:dn P t ty)(ha:ty.b=false):ty.a=1/\∃k,ty.d=[k]:=by
 obtain⟨i,z,_,_,_,_,h1,_,h3⟩:=h.j;rw[h3 ha]at h1;have hl:=h.o;match hk:ty.d,h1 with
 | [k],_=>rw[hk]at hl;exact⟨by simpa using hl.symm,k,rfl⟩
 | [],h1=>simp[gL]at h1
 |_::_::_,h1=>simp[gL]at h1
variable{w:World}{O:Nat->Prop}
def ax.OG{v:Value}(h:oB k v=true):ax T w O (ph k) R v:=by
 cases k<;>cases v<;>first | (simp[oB]at h;done) |skip
 case d b=>simp[oB]at h;subst h;rfl
 case a k k' n=>simp[oB]at h;obtain⟨rfl,rfl⟩:=h;rfl
 case b s=>exact⟨s,rfl,by simpa[oB] using h⟩
 case c e a n c=>
  cases a<;>cases n<;>cases c<;>first | (simp[oB]at h;done) |skip
  exact⟨none,0,rfl,bj _,.inl rfl⟩
 case f a=>cases a<;>first | (simp[oB]at h;done) |rfl
 case g a=>cases a<;>first | (simp[oB]at h;done) |rfl
 case h=>rfl
 case i=>rfl
def aF.Z2{R:aa->Value->Prop}:∀{ks:List bY}{l:List Value},gL ks l=true->aF T w O (ks.map AH.ph) R l
 | [],[],_=>rfl
 | [],_::_,h=>by simp[gL]at h
 |_::_,[],h=>by simp[gL]at h
 |k::ks,x::l,h=>by rw[gL,au]at h;exact⟨x,l,rfl,ax.OG h.1,aF.Z2 h.2⟩
def ax.Z3{v:Value}(h:oB k v=true):ax T w O (AH.E8 k) R v:=by
 cases k with
 |c e=>
  cases v<;>first | (simp[oB]at h;done) |skip
  rename_i a n c;cases a<;>cases n<;>cases c<;>first | (simp[oB]at h;done) |skip
  rfl
 |_=>exact ax.OG h
def aF.Z4{R:aa->Value->Prop}:∀{ks:List bY}{l:List Value},gL ks l=true->aF T w O (ks.map AH.E8) R l
 | [],[],_=>rfl
 | [],_::_,h=>by simp[gL]at h
 |_::_,[],h=>by simp[gL]at h
 |k::ks,x::l,h=>by rw[gL,au]at h;exact⟨x,l,rfl,ax.Z3 h.1,aF.Z4 h.2⟩
def Jf:∀{ks:List bY}{l:List Value},gL ks l=true->l.length=ks.length
 | [],[],_=>rfl
 | [],_::_,h=>by simp[gL]at h
 |_::_,[],h=>by simp[gL]at h
 |k::ks,x::l,h=>by rw[gL,au]at h;simp[Jf h.2]
def dn.U(h:dn P t ty)(w':World)(R:aa->Value->Prop):∃z,(zeroValue t).run P w'=.ok z w'/\ax T w O (gw ty) R z/\aF T w O (gw ty).V R z.cells.toList/\z.cells.size=ty.a:=by
 obtain⟨z,hr,hz,h1,h2⟩:=h.ZZ w';have hl:=Jf hz;have eo:=aF.Z2 (T:=T) (w:=w) (O:=O) (R:=R) hz;have hlen:=h.o;obtain⟨size,agg,bytes,kinds,d,eq⟩:=ty;cases agg with
 |true=>obtain⟨a,rfl⟩:=h1 rfl;exact⟨_,hr,⟨a,rfl,eo⟩,eo,by simpa[Value.cells,hlen] using hl⟩
 |false=>
  have hc:=h2 rfl;rw[hc]at hz hl eo;match kinds,hz,hl with
  | [k],hz,_=>
   rw[gL,au]at hz;refine⟨z,hr,ax.OG hz.1,?_,?_⟩
   ·rw[hc];have:(AH.gw ⟨size,false,bytes,[k],d,eq⟩).V=[AH.ph k]:=by cases k<;>rfl
    rw[this];exact eo
   ·rw[hc];simpa using hlen
  | [],_,hl=>simp at hl
  |_::_::_,_,hl=>simp at hl
def dn.Cv(h:dn P t ty)(w':World)(R:aa->Value->Prop):∃z,(zeroValue t).run P w'=.ok z w'/\ax T w O (mc ty) R z/\aF T w O (mc ty).V R z.cells.toList/\z.cells.size=ty.a:=by
 obtain⟨z,hr,hz,h1,h2⟩:=h.ZZ w';have hl:=Jf hz;have eo:=aF.Z4 (T:=T) (w:=w) (O:=O) (R:=R) hz;have hlen:=h.o;obtain⟨size,agg,bytes,kinds,d,eq⟩:=ty;cases agg with
 |true=>obtain⟨a,rfl⟩:=h1 rfl;exact⟨_,hr,⟨a,rfl,eo⟩,eo,by simpa[Value.cells,hlen] using hl⟩
 |false=>
  have hc:=h2 rfl;rw[hc]at hz hl eo;match kinds,hz,hl with
  | [k],hz,_=>
   rw[gL,au]at hz;refine⟨z,hr,ax.Z3 hz.1,?_,?_⟩
   ·rw[hc];have:(AH.mc ⟨size,false,bytes,[k],d,eq⟩).V=[AH.E8 k]:=by cases k<;>rfl
    rw[this];exact eo
   ·rw[hc];simpa using hlen
  | [],_,hl=>simp at hl
  |_::_::_,_,hl=>simp at hl
def OH{v:Value}(h:oB k v=true):dX k (AH.ph k)=true/\lg k (AH.ph k)=AH.ph k:=by cases k<;>first | (refine⟨?_,rfl⟩;simp[dX,AH.ph];done) | (cases v<;>simp[oB]at h)
def Z5:∀{ks:List bY}{l:List Value},gL ks l=true->bT ks (ks.map AH.ph)=true
 | [],[],_=>rfl
 | [],_::_,h=>by simp[gL]at h
 |_::_,[],h=>by simp[gL]at h
 |k::ks,x::l,h=>by rw[gL,au]at h;simp only[lX,bT,au];exact⟨(OH h.1).1,Z5 h.2⟩
def Jg:∀{ks:List bY}{cs:List aa}{j:Nat}{v:aa},cs.length=ks.length->(∀i:Nat,v.D (j+i)=cs.getD i .m)->(∀(i:Nat)(k:bY)(c:aa),ks[i]? =some k->cs[i]? =some c->lg k c=c)->gJ ks j v=cs
 | [],[],_,_,_,_,_=>rfl
 | [],_::_,_,_,h,_,_=>by simp at h
 |_::_,[],_,_,h,_,_=>by simp at h
 |k::ks,c::cs,j,v,h,hv,he=>by
  have h0:=hv 0;rw[lW,XH]at h0;rw[gJ,h0,he 0 k c rfl rfl,Jg (cs:=cs) (by simpa using h) (λi=> ?_) (λi k' c' h1 h2=>he (i+1) k' c' (by simpa using h1) (by simpa using h2))];have:=hv (i+1);rw[XI]at this;rw[<-this];congr 1
  omega
def dn.alI(h:dn P t ty):cA ty (gw ty)=true/\dm ty (gw ty)=gw ty:=by
 obtain⟨i,z,_,_,_,_,hz,_,h3⟩:=h.j;have ho:=λha=>h.V ha;obtain⟨size,agg,bytes,kinds,d,eq⟩:=ty;cases agg with
 |true=>
  refine⟨Z5 hz,?_⟩;show aa.u (gJ kinds 0 (.u (kinds.map ph)))=.u (kinds.map ph);rw[Jg (cs:=kinds.map ph) aB (λi=>by simp[aa.D,aa.V])];intro i k c h1 h2;rw[fX,h1]at h2;simp at h2;subst h2;have hlen:=Jf hz;have:∀(ks:List bY)(l:List Value)(i:Nat)(k:bY),gL ks l=true->ks[i]? =some k->∃x,oB k x=true:=by
   intro ks;induction ks with
   |nil=>intro l i k _ h;simp at h
   |cons a ks ih=>
    intro l i k hl hk;cases l with
    |nil=>simp[gL]at hl
    |cons x l=>
     rw[gL,au]at hl;cases i with
     |zero=>simp at hk;subst hk;exact⟨x,hl.1⟩
     |succ i=>exact ih l i k hl.2 (by simpa using hk)
  obtain⟨x,hx⟩:=this kinds _ i k hz h1;exact(OH hx).2
 |false=>obtain⟨_,k,hk⟩:=ho rfl;simp only at hk;subst hk;rw[h3 rfl]at hz;rw[show(#[z]:Array Value).toList=[z]from rfl,gL,au]at hz;exact OH hz.1
def Cw(h:dn P t ty)(hf:cA ty v=true)(hl:cs.length=ty.a)(hr:ax T w O v R (qa ty.b cs)):aF T w O v.V R cs:=by
 have ho:=λha=>h.V ha;obtain⟨size,agg,bytes,kinds,d,eq⟩:=ty;cases agg with
 |true=>cases v<;>simp[cA]at hf;obtain⟨a,ha,h1⟩:=hr;simp only[qa,Value.agg.injEq]at ha;subst ha;exact h1
 |false=>
  obtain⟨h1,k,hk⟩:=ho rfl;simp only at h1 hk hl;subst hk;rw[h1]at hl;match cs,hl with
  | [c],_=>
   have hv:v.V=[v]:=by cases v<;>first |rfl | (cases k<;>simp[cA,dX]at hf)
   rw[hv];exact⟨c,[],rfl,hr,rfl⟩
def OI(h:dn P t ty)(hf:cA ty v=true)(hr:aF T w O v.V R cs):ax T w O v R (qa ty.b cs)/\cs.length=ty.a:=by
 have ho:=λha=>h.V ha;have hlen:=h.o;have hL:=hr.I;obtain⟨size,agg,bytes,kinds,d,eq⟩:=ty;cases agg with
 |true=>
  cases v<;>simp[cA]at hf;rename_i l;refine⟨⟨cs.toArray,rfl,hr⟩,?_⟩;have:∀(ks:List bY)(l:List aa),bT ks l=true->l.length=ks.length:=by
   intro ks;induction ks with
   |nil=>intro l h;cases l<;>simp[bT]at h⊢
   |cons k ks ih=>intro l h;cases l<;>simp[bT]at h⊢;exact ih _ h.2
  simp only[aa.V]at hL;rw[hL,this kinds l hf];exact hlen
 |false=>
  obtain⟨h1,k,hk⟩:=ho rfl;simp only at h1 hk;subst hk;have hv:v.V=[v]:=by cases v<;>first |rfl | (cases k<;>simp[cA,dX]at hf)
  rw[hv]at hr;obtain⟨c,r,rfl,h2,h3⟩:=hr;rw[show r=[]from h3];exact⟨h2,by simp[h1]⟩
def bN.U:∀{vs:List aa}{t b o k:Nat}{v:aa},bN T w O vs t b o->vs[k]? =some v->
  cA (T t) v=true/\dm (T t) v=v/\∃cs:List Value,cs.length=(T t).a/\dH w b (o+k*(T t).a) cs/\ax T w O v bh (qa (T t).b cs)
 | [],_,_,_,_,_,_,h=>by simp at h
 |u::vs,t,b,o,0,v,h,hv=>by simp at hv;subst hv;obtain⟨⟨h1,h2⟩,⟨cs,h3,h4,h5⟩,_⟩:=h;exact⟨h1,h2,cs,h3,by simpa using h4,h5⟩
 |u::vs,t,b,o,k+1,v,h,hv=>by obtain⟨_,_,h6⟩:=h;obtain⟨h1,h2,cs,h3,h4,h5⟩:=bN.U h6 (by simpa using hv);exact⟨h1,h2,cs,h3,by rw[lu];rw[show o+(k*(T t).a+(T t).a)=o+(T t).a+k*(T t).a from ab];exact h4,h5⟩
end
structure bd where
 a:Nat
 b:Nat
 d:Bool
 c:Nat
 deriving Inhabited
def bd.D(l:bd):Option Addr:=match l.d with |true=>none |false=>some ⟨l.a,l.c,none⟩
def Z6(n:Nat)(x:Value):Prop:=∃a c,x=.slice a n c/\n<=c/\(n≠0->∃b o,a=some ⟨b,o,none⟩)
def bW(T:TypeId->bz)(h:Nat->aj)(β:Nat->bd):aa->Value->Prop
 | .e i j,x=>(∃ro cs,h i=.a ro cs)/\x=.pointer (some ⟨(β i).a,j,none⟩)
 | .y t i g n,x=>∃ro g' t' vs,h i=.b ro g' t' vs/\g<=g'/\Z6 n x/\(g=g'->t'=t/\n=vs.length/\x=.slice (β i).D n (β i).b)
 | .K t i g o n,x=>∃ro g' t' vs,h i=.b ro g' t' vs/\g<=g'/\Z6 n x/\(g=g'->t'=t/\o+n<=vs.length/\∃a,x=.slice a n ((β i).b-o)/\((β i).b-o≠0->a=some ⟨(β i).a,(β i).c+o*(T t).a,none⟩))
 | .H i g k j,x=>∃ro g' t vs,h i=.b ro g' t vs/\g<=g'/\(∃b o,x=.pointer (some ⟨b,o,none⟩))/\(g=g'->k<vs.length/\x=.pointer (some ⟨(β i).a,(β i).c+(k*(T t).a+j),none⟩))
 | .F i,x=>(∃ro t ks vs,h i=.d ro t ks vs)/\x=.map (some (β i).a)
 | .L i,x=>(∃ro s k,h i=.f ro s k)/\x=.pointer (some ⟨(β i).a,0,none⟩)
 | .G _ i n,x=>(∃ro cs,h i=.a ro cs)/\∃cap,n<=cap/\x=.slice (some ⟨(β i).a,0,none⟩) n cap
 |_,_=>False
def bW.D{h:Nat->aj}{β:Nat->bd}(hr:bW T h β r y):r.dP≠ []:=by cases r<;>first |exact hr.elim |simp[aa.dP]
def gM(T:TypeId->bz)(w:World)(O:Nat->Prop)(R:aa->Value->Prop)(l:bd):aj->Prop
 | .c=>True
 | .a _ cs=>l.d=false/\∃arr e,w.heap[l.a]? =some (.cells arr e (0,0))/\aF T w O cs R (arr.toList.take cs.length)
 | .f _ s k=>l.d=false/\∃b:ByteArray,b.data.toList=s/\w.heap[l.a]? =some (.stringIter b k)
 | .b _ _ t vs=>(T t).D=true/\((l.d=true/\vs=[]/\l.b=0)\/
   (l.d=false/\∃cur,w.heap[l.a]? =some (.cells cur t (0,0))/\vs.length<=l.b/\l.b<=maxLen/\cur.size=l.c+l.b*(T t).a/\bN T w O vs t l.a l.c))
 | .d _ t ks vs=>l.d=false/\Ox T t ks vs/\∃es clk,w.heap[l.a]? =some (.map es clk)/\aF T w O ks bh (es.toList.map (·.key))/\aF T w O vs bh (es.toList.map (·.val))
def gM.D{l:bd}{o:aj}(h:gM T w O R l o)(ha:o.D=true)(hn:l.d=false):l.a<w.heap.size:=by
 cases o with
 |c=>cases ha
 |a ro cs=>obtain⟨_,arr,e,h,_⟩:=h;exact(Array.getElem?_eq_some_iff.1 h).1
 |b ro g t vs=>
  obtain⟨_,h | ⟨_,cur,h,_⟩⟩:=h
  ·rw[hn]at h;cases h.1
  ·exact(Array.getElem?_eq_some_iff.1 h).1
 |d ro t ks vs=>obtain⟨_,_,es,clk,h,_⟩:=h;exact(Array.getElem?_eq_some_iff.1 h).1
 |f ro s k=>obtain⟨_,_,_,h⟩:=h;exact(Array.getElem?_eq_some_iff.1 h).1
def gM.I{l:bd}{o:aj}(hk:cz w w' O O')(hR:∀r y,R r y->R' r y)(hb:l.d=false->w'.heap[l.a]? =w.heap[l.a]?)(h:gM T w O R l o):gM T w' O' R' l o:=by
 cases o with
 |c=>trivial
 |a ro cs=>obtain⟨hn,arr,e,h1,h2⟩:=h;exact⟨hn,arr,e,(hb hn).trans h1,aF.D hk cs R R' _ hR h2⟩
 |b ro g t vs=>
  obtain⟨ht,h | ⟨hn,cur,h1,h2,h3,h4,h5⟩⟩:=h
  ·exact⟨ht,.inl h⟩
  ·exact⟨ht,.inr ⟨hn,cur,(hb hn).trans h1,h2,h3,h4,bN.D hk vs t _ _ (hb hn) h5⟩⟩
 |f ro s k=>obtain⟨hn,b,eT,h1⟩:=h;exact⟨hn,b,eT,(hb hn).trans h1⟩
 |d ro t ks vs=>obtain⟨hn,hd,es,clk,h1,h2,h3⟩:=h;exact⟨hn,hd,es,clk,(hb hn).trans h1,aF.D hk ks _ _ _ (λ_ _ h=>h) h2,aF.D hk vs _ _ _ (λ_ _ h=>h) h3⟩
def cQ(h:Nat->aj)(β:Nat->bd)(i:Nat):Prop:=(h i).I=true/\(β i).d=false
def aY(Z:Nat->Prop)(h:Nat->aj)(β:Nat->bd)(b:Nat):Prop:=Z b\/∃i,cQ h β i/\(β i).a=b
def aj.t_{o:aj}(h:o.I=true):o.D=true:=by cases o<;>first |rfl |cases h
def alJ(w:World)(v:aa)(g:Nat):Prop:=match v with
 | .A cs=>∃arr e z,w.heap[g]? =some (.cells arr e z)/\arr.size=cs.length
 |_=>True
def dU(T:TypeId->bz)(w:World)(O:Nat->Prop)(v:aa)(g:Nat):Prop:=ax T w O v bh (.pointer (some ⟨g,0,none⟩))/\alJ w v g
def dU.D(hk:cz w w' O O'){g:Nat}(h:dU T w O v g):dU T w' O' v g:=by
 refine⟨ax.D hk _ _ _ _ (λ_ _ h=>h) h.1,?_⟩;cases v with
 |A cs=>obtain⟨⟨b,o,l,he,hb,hO,_⟩,arr,e,z,h1,h2⟩:=h;simp only[Value.pointer.injEq,Option.some.injEq,Addr.mk.injEq]at he;obtain⟨rfl,rfl,_⟩:=he;exact⟨arr,e,z,(hk.a _ hb hO).trans h1,h2⟩
 |_=>trivial
structure cY(T:TypeId->bz)(G:Nat->aa)(Z:Nat->Prop)(h:Nat->aj)(β:Nat->bd)(w:World):Prop where
 c:∀i,gM T w (aY Z h β) (bW T h β) (β i) (h i)
 p:∀i,(h i).D=true->(h i).I=false->(β i).d=false->¬aY Z h β (β i).a
 d:∀i j,i≠j->cQ h β i->cQ h β j->(β i).a≠(β j).a
 m:∀b,Z b->b<w.heap.size
 f:∀i,cQ h β i->¬Z (β i).a
 n:∀g,dU T w (aY Z h β) (G g) g
def iz:aj->bd->aj->bd->Prop
 | .c,_,_,_=>True
 | .a _ _,l,o',l'=>(∃ro cs',o'=.a ro cs')/\l'.a=l.a
 | .b _ g t vs,l,o',l'=>∃ro g' t' vs',o'=.b ro g' t' vs'/\g<=g'/\(g=g'->t'=t/\vs'.length=vs.length/\l'=l)
 | .d ..,l,o',l'=>(∃ro t ks vs,o'=.d ro t ks vs)/\l'.a=l.a
 | .f ..,l,o',l'=>(∃ro s k,o'=.f ro s k)/\l'.a=l.a
def iz.D(o:aj)(l:bd):iz o l o l:=by
 cases o with
 |c=>trivial
 |a ro cs=>exact⟨⟨_,_,rfl⟩,rfl⟩
 |b ro g t vs=>exact⟨_,_,_,_,rfl,bj _,λ_=>⟨rfl,rfl,rfl⟩⟩
 |d ro t ks vs=>exact⟨⟨_,_,_,_,rfl⟩,rfl⟩
 |f ro s k=>exact⟨⟨_,_,_,rfl⟩,rfl⟩
def iz.I{a b c:aj}{l m n:bd}(h1:iz a l b m)(h2:iz b m c n):iz a l c n:=by
 cases a with
 |c=>trivial
 |a ro cs=>obtain⟨⟨_,_,rfl⟩,e1⟩:=h1;obtain⟨h3,e2⟩:=h2;exact⟨h3,e2.trans e1⟩
 |b ro g t vs=>obtain⟨_,g1,t1,vs1,rfl,hg,hq⟩:=h1;obtain⟨ro2,g2,t2,vs2,rfl,xl,vh⟩:=h2;refine⟨_,_,_,_,rfl,eb hg xl,λhe=> ?_⟩;obtain⟨e1,e2,e3⟩:=hq ab;obtain⟨f1,f2,f3⟩:=vh ab;exact⟨f1.trans e1,f2.trans e2,f3.trans e3⟩
 |d ro t ks vs=>obtain⟨⟨_,_,_,_,rfl⟩,e1⟩:=h1;obtain⟨h3,e2⟩:=h2;exact⟨h3,e2.trans e1⟩
 |f ro s k=>obtain⟨⟨_,_,_,rfl⟩,e1⟩:=h1;obtain⟨h3,e2⟩:=h2;exact⟨h3,e2.trans e1⟩
structure dF(h:Nat->aj)(β:Nat->bd)(w:World)(h':Nat->aj)(β':Nat->bd)(w':World):Prop where
 g:w'.os=w.os
 l:w'.tape=w.tape
 n:w'.output=w.output
 d:w.heap.size<=w'.heap.size
 f:∀b,b<w.heap.size->(∀i,cQ h β i->(β i).a≠b)->w'.heap[b]? =w.heap[b]?
 c:∀i,cQ h' β' i->(∃k,cQ h β k/\(β k).a=(β' i).a)\/w.heap.size<=(β' i).a
 o:∀i,iz (h i) (β i) (h' i) (β' i)
section
variable{T:TypeId->bz}{G:Nat->aa}{Z:Nat->Prop}{h h' h'':Nat->aj}{β β' β'':Nat->bd}{w w' w'':World}
def Fm(hh:∀i,iz (h i) (β i) (h' i) (β' i))(hr:bW T h β r y):bW T h' β' r y:=by
 cases r with
 |e i j=>obtain⟨⟨ro,cs,e⟩,rfl⟩:=hr;have:=hh i;rw[e]at this;obtain⟨⟨ro',cs',e'⟩,hb⟩:=this;exact⟨⟨ro',cs',e'⟩,by rw[hb]⟩
 |y tt i g n=>obtain⟨ro,g',t,vs,e,hg,lz,hx⟩:=hr;have:=hh i;rw[e]at this;obtain⟨ro',g2,t',vs',e',hg',hq⟩:=this;refine⟨ro',g2,t',vs',e',eb hg hg',lz,λhe=> ?_⟩;have h1:g=g':=ab;obtain⟨ht,h2,h3⟩:=hq ab;obtain⟨h0,h4,h5⟩:=hx h1;exact⟨ht.trans h0,ab,by rw[h3];exact h5⟩
 |K tt i g o n=>obtain⟨ro,g',t,vs,e,hg,lz,hx⟩:=hr;have:=hh i;rw[e]at this;obtain⟨ro',g2,t',vs',e',hg',hq⟩:=this;refine⟨ro',g2,t',vs',e',eb hg hg',lz,λhe=> ?_⟩;have h1:g=g':=ab;obtain⟨ht,h2,h3⟩:=hq ab;obtain⟨h0,h4,a,h5,h6⟩:=hx h1;exact⟨ht.trans h0,ab,a,by rw[h3];exact h5,by rw[h3];exact h6⟩
 |H i g k j=>obtain⟨ro,g',t,vs,e,hg,hp,hx⟩:=hr;have:=hh i;rw[e]at this;obtain⟨ro',g2,t',vs',e',hg',hq⟩:=this;refine⟨ro',g2,t',vs',e',eb hg hg',hp,λhe=> ?_⟩;have h1:g=g':=ab;obtain⟨ht,h2,h3⟩:=hq ab;obtain⟨h4,h5⟩:=hx h1;exact⟨ab,by rw[h3,ht];exact h5⟩
 |F i=>obtain⟨⟨ro,t,ks,vs,e⟩,rfl⟩:=hr;have:=hh i;rw[e]at this;obtain⟨⟨ro',t',ks',vs',e'⟩,hb⟩:=this;exact⟨⟨ro',t',ks',vs',e'⟩,by rw[hb]⟩
 |L i=>obtain⟨⟨ro,s,k,e⟩,rfl⟩:=hr;have:=hh i;rw[e]at this;obtain⟨⟨ro',s',k',e'⟩,hb⟩:=this;exact⟨⟨ro',s',k',e'⟩,by rw[hb]⟩
 |G t i n=>obtain⟨⟨ro,cs,e⟩,cap,hc,rfl⟩:=hr;have:=hh i;rw[e]at this;obtain⟨⟨ro',cs',e'⟩,hb⟩:=this;exact⟨⟨ro',cs',e'⟩,cap,hc,by rw[hb]⟩
 |_=>exact hr.elim
def dF.Z7(s:dF h β w h' β' w')(hr:bW T h β r y):bW T h' β' r y:=Fm s.o hr
def dF.D:dF h β w h β w:=⟨rfl,rfl,rfl,bj _,λ_ _ _=>rfl,λi hi=>.inl ⟨i,hi,rfl⟩,λi=>iz.D _ _⟩
def dF.I(a:dF h β w h' β' w')(b:dF h' β' w' h'' β'' w''):dF h β w h'' β'' w'' := {
 g:=b.g.trans a.g
 l:=b.l.trans a.l
 n:=b.n.trans a.n
 d:=eb a.d b.d
 f:=λk hk hn=>(b.f k (dJ hk a.d) (λi hi he=>by
  rcases a.c i hi with⟨j,hj,e⟩ |e
  ·exact hn j hj (e.trans he)
  ·omega)).trans (a.f k hk hn)
 c:=λi hi=>by
  rcases b.c i hi with⟨j,hj,e⟩ |e
  ·rcases a.c j hj with⟨k,hk,e'⟩ |e'
   ·exact .inl ⟨k,hk,e'.trans e⟩
   ·exact .inr (by rw[<-e];exact e')
  ·exact .inr (eb a.d e)
 o:=λi=>(a.o i).I (b.o i) }
def dF.Jh(cx:cY T G Z h β w)(s:dF h β w h' β' w'):cz w w' (aY Z h β) (aY Z h' β') := {
 c:=s.d
 a:=λb hb hO=>s.f b hb (λi hi e=>hO (.inr ⟨i,hi,e⟩))
 d:=λb hb hO=>by
  rintro(hz | ⟨i,hi,e⟩)
  ·exact hO (.inl hz)
  ·rcases s.c i hi with⟨k,hk,e'⟩ |e'
   ·exact hO (.inr ⟨k,hk,e'.trans e⟩)
   ·omega }
def dF.V(cx:cY T G Z h β w)(s:dF h β w h' β' w')(hr:ax T w (aY Z h β) v (bW T h β) x):ax T w' (aY Z h' β') v (bW T h' β') x:=
 ax.D (s.Jh cx) v _ _ x (λ_ _ h=>s.Z7 h) hr
def dt(f:Nat->α)(i:Nat)(x:α):bO f i x i=x:=by simp[bO]
def fj(f:Nat->α){i j:Nat}(x:α)(bL:j≠i):bO f i x j=f j:=by
 unfold bO;have:Nat.beq j i=false:=by
  cases hq:Nat.beq j i with
  |true=>exact absurd (iZ hq) bL
  |false=>rfl
 rw[this]
def cY.D(cx:cY T G Z h β w)(i:Nat)(o:aj)(l:bd)
  (os:w'.os=w.os)(tape:w'.tape=w.tape)(output:w'.output=w.output)(size:w.heap.size<=w'.heap.size)
  (frame:∀b,b<w.heap.size->(cQ h β i->(β i).a≠b)->w'.heap[b]? =w.heap[b]?)
  (jM:o.I=true)
  (hl:l.d=false->(cQ h β i/\l.a=(β i).a)\/(w.heap.size<=l.a/\l.a<w'.heap.size))
  (hd:iz (h i) (β i) o l)
  (dd:cz w w' (aY Z h β) (aY Z (bO h i o) (bO β i l))->(∀r y,bW T h β r y->bW T (bO h i o) (bO β i l) r y)->gM T w' (aY Z (bO h i o) (bO β i l)) (bW T (bO h i o) (bO β i l)) l o):
  cY T G Z (bO h i o) (bO β i l) w'/\dF h β w (bO h i o) (bO β i l) w':=by
 have hm:∀k,k≠i->(cQ (bO h i o) (bO β i l) k↔cQ h β k):=λk hk=>by simp[cQ,fj _ _ hk]
 have Nq:cQ (bO h i o) (bO β i l) i↔l.d=false:=by simp[cQ,dt,jM]
 have EG:∀k,iz (h k) (β k) (bO h i o k) (bO β i l k):=λk=>by
  by_cases hk:k=i
  ·subst hk;rw[dt,dt];exact hd
  ·rw[fj _ _ hk,fj _ _ hk];exact iz.D _ _
 have hrefs:∀r y,bW T h β r y->bW T (bO h i o) (bO β i l) r y:=λr y=>Fm EG;have st:dF h β w (bO h i o) (bO β i l) w':=by
  refine⟨os,tape,output,size,λb hb hn=>frame b hb (hn i),λk hk=> ?_,EG⟩;by_cases iI:k=i
  ·subst iI;rw[dt];rcases hl (Nq.1 hk)with⟨h1,h2⟩ | ⟨h1,_⟩
   ·exact .inl ⟨k,h1,h2.symm⟩
   ·exact .inr h1
  ·rw[fj _ _ iI];exact .inl ⟨k,(hm k iI).1 hk,rfl⟩
 have hk:=st.Jh cx;refine⟨⟨λk=> ?_,λk ha hr hn=> ?_,λa b vi ha hb=> ?_,λb hz=>dJ (cx.m b hz) size,λk vj hz=> ?_,λg=>dU.D hk (cx.n g)⟩,st⟩
 ·by_cases iI:k=i
  ·subst iI;rw[dt,dt];exact dd hk hrefs
  ·rw[fj _ _ iI,fj _ _ iI];by_cases ha:(h k).D=true
   ·refine(cx.c k).I hk hrefs (λhn=> ?_);have cC:=(cx.c k).D ha hn;by_cases hr:(h k).I=true
    ·exact frame _ cC (λaJW e=>cx.d i k (lY iI) aJW ⟨hr,hn⟩ e)
    ·exact hk.a _ cC (cx.p k ha (by simpa using hr) hn)
   ·have hq:h k=.c:=by
     cases hq:h k with
     |c=>rfl
     |_=>rw[hq]at ha;exact absurd rfl ha
    rw[hq];trivial
 ·by_cases iI:k=i
  ·subst iI;rw[dt]at hr;rw[jM]at hr;cases hr
  ·rw[fj _ _ iI]at ha hr hn⊢;exact hk.d _ ((cx.c k).D ha hn) (cx.p k ha hr hn)
 ·by_cases h1:a=i
  ·subst h1;have hb':=(hm b (lY vi)).1 hb;rw[dt,fj _ _ (lY vi)];rcases hl (Nq.1 ha)with⟨h2,h3⟩ | ⟨h2,_⟩
   ·rw[h3];exact cx.d a b vi h2 hb'
   ·have:=(cx.c b).D (aj.t_ hb'.1) hb'.2;omega
  ·have ha':=(hm a h1).1 ha;rw[fj _ _ h1];by_cases h4:b=i
   ·subst h4;rw[dt];rcases hl (Nq.1 hb)with⟨h2,h3⟩ | ⟨h2,_⟩
    ·rw[h3];exact cx.d a b vi ha' h2
    ·have:=(cx.c a).D (aj.t_ ha'.1) ha'.2;omega
   ·rw[fj _ _ h4];exact cx.d a b vi ha' ((hm b h4).1 hb)
 ·by_cases iI:k=i
  ·subst iI;rw[dt]at hz;rcases hl (Nq.1 vj)with⟨h2,h3⟩ | ⟨h2,_⟩
   ·rw[h3]at hz;exact cx.f k h2 hz
   ·have:=cx.m _ hz;omega
  ·rw[fj _ _ iI]at hz;exact cx.f k ((hm k iI).1 vj) hz
end
def xR(w:World)(b:Nat):Prop:=(∃r,w.heap[b]? =some (.loop r))\/∃d,w.heap[b]? =some (.deferred d)
structure cc(B:Nat)(w w':World):Prop where
 i:w'.os=w.os
 j:w'.tape=w.tape
 m:w'.output=w.output
 f:w.heap.size<=w'.heap.size
 g:∀b,b<w.heap.size->w'.heap[b]? =w.heap[b]? \/(B<=b/\xR w b)
section
variable{T:TypeId->bz}{G:Nat->aa}{Z O:Nat->Prop}{R:aa->Value->Prop}{h:Nat->aj}{β:Nat->bd}{w w' w'':World}{B B':Nat}
def cc.U:cc B w w:=⟨rfl,rfl,rfl,bj _,λ_ _=>.inl rfl⟩
def cc.D(q:cc B w w')(hB:B'<=B):cc B' w w':=⟨q.i,q.j,q.m,q.f,λb hb=>(q.g b hb).imp id λh=>⟨eb hB h.1,h.2⟩⟩
def cc.Z8(hh:w'.heap=w.heap)(ho:w'.os=w.os)(ht:w'.tape=w.tape)(hp:w'.output=w.output):cc B w w':=⟨ho,ht,hp,by rw[hh];exact bj _,λb _=>.inl (by rw[hh])⟩
def cc.Fo(a:cc B w w')(b:cc B w' w''):cc B w w'' := {
 i:=b.i.trans a.i
 j:=b.j.trans a.j
 m:=b.m.trans a.m
 f:=eb a.f b.f
 g:=λk hk=>by
  rcases a.g k hk with h1 |h1
  ·rcases b.g k (dJ hk a.f)with h2 | ⟨h2,h3⟩
   ·exact .inl (h2.trans h1)
   ·exact .inr ⟨h2,by unfold xR at*;rwa[h1]at h3⟩
  ·exact .inr h1 }
def cc.V(w:World)(o:Obj):cc B w (w.alloc o):=
 ⟨rfl,rfl,rfl,by rw[zi];omega,λb hb=>.inl (by show(w.heap.push o)[b]? =_;rw[HI hb];simp[hb])⟩
def xR.D(hk:xR w b)(hc:w.heap[b]? =some (.cells c e z)):False:=by rcases hk with⟨r,hr⟩ | ⟨d,hr⟩<;>rw[hc]at hr<;>cases hr
def xR.I(hk:xR w b)(hc:w.heap[b]? =some (.map es clk)):False:=by rcases hk with⟨r,hr⟩ | ⟨d,hr⟩<;>rw[hc]at hr<;>cases hr
def xR.U{v:Option _}{u:Value}(hk:xR w b)(hc:w.cell? ⟨b,o,v⟩=some u):False:=by rcases hk with⟨r,hr⟩ | ⟨d,hr⟩<;>simp[World.cell?,hr]at hc
def cc.OJ(q:cc B w w')(hc:w.heap[b]? =some (.cells c e z)):w'.heap[b]? =w.heap[b]? :=by
 rcases q.g b (Array.getElem?_eq_some_iff.1 hc).1 with h | ⟨_,h⟩
 ·exact h
 ·exact(h.D hc).elim
def cc.Z9(q:cc B w w')(hc:w.heap[b]? =some (.map es clk)):w'.heap[b]? =w.heap[b]? :=by
 rcases q.g b (Array.getElem?_eq_some_iff.1 hc).1 with h | ⟨_,h⟩
 ·exact h
 ·exact(h.I hc).elim
def dH.Z_(q:cc B w w')(hb:b<w.heap.size)(hl:dH w b o cs):dH w' b o cs:=by
 rcases q.g b hb with h | ⟨_,h⟩
 ·exact hl.V h
 ·exact λj u hj=>(h.U (hl j u hj)).elim
mutual
def ax.U(q:cc B w w'):∀(v:aa)(R:aa->Value->Prop)(x:Value),ax T w O v R x->ax T w' O v R x
 | .m,_,_,_=>trivial
 | .p _,_,_,h=>h
 | .c _ _,_,_,h=>h
 | .h _,_,_,h=>h
 | .B,_,_,h=>h
 | .E,_,_,h=>h
 | .w,_,_,h=>h
 | .N,_,_,h=>h
 | .M,_,_,h=>h
 | .u cs,R,_,h=>by obtain⟨a,rfl,h⟩:=h;exact⟨a,rfl,aF.qc q cs R _ h⟩
 | .q cs,R,_,h=>by obtain⟨a,rfl,h⟩:=h;exact⟨a,rfl,aF.qc q cs R _ h⟩
 | .d t vs,_,_,h=>by
  obtain⟨a,cap,rfl,hc,h⟩:=h;refine⟨a,cap,rfl,hc,?_⟩;rcases h with h | ⟨b,o,rfl,h1,h2,h3⟩
  ·exact .inl h
  ·exact .inr ⟨b,o,rfl,dJ h1 q.f,h2,bN.V q vs t b o h1 h3⟩
 | .O t vs,_,_,h=>by
  obtain⟨a,rfl,h⟩:=h;refine⟨a,rfl,?_⟩;rcases h with h | ⟨b,o,rfl,h1,h2,h3⟩
  ·exact .inl h
  ·exact .inr ⟨b,o,rfl,dJ h1 q.f,h2,bN.V q vs t b o h1 h3⟩
 | .A cs,_,_,h=>by obtain⟨b,o,l,rfl,h1,h2,h3,h4⟩:=h;exact⟨b,o,l,rfl,dJ h1 q.f,h2,h3.Z_ q h1,aF.qc q cs _ _ h4⟩
 | .J t ks vs,_,_,h=>by obtain⟨r,es,clk,rfl,h1,h2,h3,hd,h4,h5⟩:=h;exact⟨r,es,clk,rfl,dJ h1 q.f,h2,(q.Z9 h3).trans h3,hd,aF.qc q ks _ _ h4,aF.qc q vs _ _ h5⟩
 | .z f a b,R,_,h=>by obtain⟨p,s,rfl,h1,h2⟩:=h;exact⟨p,s,rfl,aF.qc q a R _ h1,aF.qc q b R _ h2⟩
 | .C t v,R,_,h=>by obtain⟨y,rfl,h⟩:=h;exact⟨y,rfl,ax.U q v R _ h⟩
 | .e ..,_,_,h=>h
 | .y ..,_,_,h=>h
 | .K ..,_,_,h=>h
 | .H ..,_,_,h=>h
 | .F ..,_,_,h=>h
 | .G ..,_,_,h=>h
 | .L ..,_,_,h=>h
def aF.qc(q:cc B w w'):∀(vs:List aa)(R:aa->Value->Prop)(l:List Value),aF T w O vs R l->aF T w' O vs R l
 | [],_,_,h=>h
 |v::vs,R,_,h=>by obtain⟨x,r,rfl,h1,h2⟩:=h;exact⟨x,r,rfl,ax.U q v R _ h1,aF.qc q vs R _ h2⟩
def bN.V(q:cc B w w'):∀(vs:List aa)(t b o:Nat),b<w.heap.size->bN T w O vs t b o->bN T w' O vs t b o
 | [],_,_,_,_,_=>trivial
 |v::vs,t,b,o,hb,h=>by obtain⟨h1,⟨cs,h2,h3,h4⟩,h5⟩:=h;exact⟨h1,⟨cs,h2,h3.Z_ q hb,ax.U q v _ _ h4⟩,bN.V q vs t b _ hb h5⟩
end
def bN.alK(q:cc B w w'){t:Nat}(hc:w.heap[b]? =some (.cells c e z))(h:bN T w O vs t b o):bN T w' O vs t b o:=
 bN.V q vs t b o (Array.getElem?_eq_some_iff.1 hc).1 h
def gM.V(q:cc B w w'){l:bd}{o:aj}(h:gM T w O R l o):gM T w' O R l o:=by
 cases o with
 |c=>trivial
 |a ro cs=>obtain⟨hn,arr,e,h1,h2⟩:=h;exact⟨hn,arr,e,(q.OJ h1).trans h1,aF.qc q cs _ _ h2⟩
 |b ro g t vs=>
  obtain⟨ht,h | ⟨hn,cur,h1,h2,h3,h4,h5⟩⟩:=h
  ·exact⟨ht,.inl h⟩
  ·exact⟨ht,.inr ⟨hn,cur,(q.OJ h1).trans h1,h2,h3,h4,h5.alK q h1⟩⟩
 |f ro s k=>
  obtain⟨hn,b,hb,h1⟩:=h;refine⟨hn,b,hb,?_⟩;rcases q.g l.a (Array.getElem?_eq_some_iff.1 h1).1 with h2 | ⟨_,h2⟩
  ·exact h2.trans h1
  ·rcases h2 with⟨r,hr⟩ | ⟨d,hr⟩<;>rw[h1]at hr<;>cases hr
 |d ro t ks vs=>obtain⟨hn,hd,es,clk,h1,h2,h3⟩:=h;exact⟨hn,hd,es,clk,(q.Z9 h1).trans h1,aF.qc q ks _ _ h2,aF.qc q vs _ _ h3⟩
def dU.I(q:cc B w w'){g:Nat}(h:dU T w O v g):dU T w' O v g:=by
 refine⟨ax.U q _ _ _ h.1,?_⟩;cases v with
 |A cs=>obtain⟨_,arr,e,z,h1,h2⟩:=h;exact⟨arr,e,z,(q.OJ h1).trans h1,h2⟩
 |_=>trivial
def cY.I(cx:cY T G Z h β w)(q:cc B w w'):cY T G Z h β w' := {
 c:=λi=>(cx.c i).V q
 p:=cx.p
 d:=cx.d
 m:=λb hb=>dJ (cx.m b hb) q.f
 f:=cx.f
 n:=λg=>(cx.n g).I q }
end
def qd(T:TypeId->bz)(w:World)(O:Nat->Prop)(R:aa->Value->Prop)(s:Nat->aa)(a:Act):Prop:=∀t,ax T w O (s t) R (a.tmps.getD t undef)
section
variable{T:TypeId->bz}{w:World}{O:Nat->Prop}{R:aa->Value->Prop}
def ax.alL(x:Value):ax T w O (Ol x) R x:=by
 have one:∀x:Value,ax T w O (Ol.ZK x) R x:=by
  intro x;cases x with
  |bool b=>rfl
  |int k n=>rfl
  |string s=>exact⟨s,rfl,rfl⟩
  |slice a n c=>
   cases a with
   |some a=>exact trivial
   |none=>
    cases n with
    |zero=>cases c with
     |zero=>exact⟨none,0,rfl,bj _,.inl rfl⟩
     |succ c=>exact trivial
    |succ n=>exact trivial
  |pointer a=>cases a<;>first |rfl |exact trivial
  |map a=>cases a<;>first |rfl |exact trivial
  |nilFunc=>rfl
  |nilIface=>rfl
  |_=>exact trivial
 cases x with
 |bool b=>rfl
 |int k n=>rfl
 |string s=>exact⟨s,rfl,rfl⟩
 |slice a n c=>
  cases a with
  |some a=>exact trivial
  |none=>
   cases n with
   |zero=>cases c with
    |zero=>exact⟨none,0,rfl,bj _,.inl rfl⟩
    |succ c=>exact trivial
   |succ n=>exact trivial
 |pointer a=>cases a<;>first |rfl |exact trivial
 |map a=>cases a<;>first |rfl |exact trivial
 |nilFunc=>rfl
 |nilIface=>rfl
 |agg cs=>refine⟨cs,rfl,aF.ZU aB (λn v x h1 h2=> ?_)⟩;simp only[fX,h2,jt,Option.some.injEq]at h1;rw[<-h1];exact one x
 |_=>exact trivial
def qd.I{E:bD}{s:Nat->aa}{a:Act}(hs:qd T w O R s a)(hg:∀g,ax T w O (E.b g) bh (.pointer (some ⟨g,0,none⟩)))(x:Operand):ax T w O (aN E s x) R (a.eval x):=by
 cases x with
 |tmp t=>exact hs t
 |const v=>exact ax.alL v
 |func f=>exact⟨#[],#[],rfl,rfl,rfl⟩
 |global g=>exact ax.I _ _ _ _ (λ_ _ _ h=>h.elim) (hg g)
def ax.Fp(h:ax T w O v R x)(hv:alC v=true\/v.pj=true)(hR:∀r y,R r y->y.oneCell'=true):aF T w O v.V R x.cells.toList:=by
 cases v with
 |u cs=>obtain⟨a,rfl,h⟩:=h;exact h
 |m=>rcases hv with h |h<;>cases h
 |q vs=>rcases hv with h |h<;>cases h
 |_=>
  have h1:=ax.OC h (by rfl) hR;have:x.cells= #[x]:=by cases x<;>first |rfl | (simp[Value.oneCell']at h1)
  rw[this];exact⟨x,[],rfl,h,rfl⟩
def OK(k:IntKind):¬(k≠k):=λh=>h rfl
def alM{k:IntKind}{x y:Int}(t:TypeId)(h1:op≠ .shl)(h2:op≠ .shr)(he:(Cp op k x y).D=some v):
  ∃z,(binOp op t (.int k x) (.int k y)).run P w=.ok z w/\∀R,ax T w O v R z:=by
 cases op
 case shl=>exact absurd rfl h1
 case shr=>exact absurd rfl h2
 case quo=>
  by_cases h:y=0
  ·simp[Cp,af.D,af.I,h]at he
  ·have hd:decide (y≠0)=true:=by simpa using h
   simp only[Cp,af.I,hd,af.D,Option.some.injEq]at he;subst he;refine⟨_,?_,λ_=>rfl⟩;show Sem.run P (if k≠k then _ else Op.intDiv .quo k x y) w=_;rw[if_neg (OK k)];show Sem.run P (if y=0 then _ else _) w=_;rw[if_neg h];rfl
 case rem=>
  by_cases h:y=0
  ·simp[Cp,af.D,af.I,h]at he
  ·have hd:decide (y≠0)=true:=by simpa using h
   simp only[Cp,af.I,hd,af.D,Option.some.injEq]at he;subst he;refine⟨_,?_,λ_=>rfl⟩;show Sem.run P (if k≠k then _ else Op.intDiv .rem k x y) w=_;rw[if_neg (OK k)];show Sem.run P (if y=0 then _ else _) w=_;rw[if_neg h];rfl
 all_goals
  have he':=Option.some.inj (show some _=some v from he);subst he';refine⟨_,?_,λ_=>rfl⟩;show Sem.run P (if k≠k then _ else _) w=_;rw[if_neg (OK k)];rfl
def Cx(s:ByteArray):s.toList=s.data.toList:=by rw[ByteArray.toList_eq]
def alN{x y:List UInt8}{a b:ByteArray}(t ty:TypeId)(E:bz)(ha:a.data.toList=x)(hb:b.data.toList=y)(he:(xM E op (.h x) (.h y)).D=some v):
  ∃z,(binOp op t (.string a) (.string b)).run P w=.ok z w/\∀R,ax T w O v R z:=by
 have hx:a.toList=x:=by rw[Cx,ha]
 have hy:b.toList=y:=by rw[Cx,hb]
 have hs:a.size=x.length:=by rw[<-ha];rfl
 have HV:b.size=y.length:=by rw[<-hb];rfl
 cases op<;>first | (simp[xM,af.D]at he;done) |skip
 case add=>
  by_cases h:x.length+y.length<=eU
  ·have hd:decide (x.length+y.length<=eU)=true:=by simpa using h
   have he':=Option.some.inj (show some _=some v from by simpa[xM,af.I,af.D,hd] using he);subst he';refine⟨.string (a++b),?_,λ_=>⟨a++b,rfl,by rw[<-ha,<-hb];simp⟩⟩;show Sem.run P (if((a.size+b.size:Nat):Int)>IntKind.i64.max then _ else _) w=_;rw[if_neg (by
    have:IntKind.i64.max=9223372036854775807:=av;unfold eU at h;omega)]
   rfl
  ·simp[xM,af.I,af.D,h]at he
 all_goals
  have he':=Option.some.inj (show some _=some v from he);subst he';refine⟨_,rfl,λ_=> ?_⟩;simp only[ax,hx,hy]
def aaa{d:Nat}{b:aa}{r:Bool}{R:aa->Value->Prop}(hb:qb P t=some k)(fa:dX k a=true)(fb:dX k b=true)(ha:ax T w O a R x)(hb':ax T w O b R' y)(he:nC a b=some r):
  (Op.equalIn (d+1) t x y).run P w=.ok r w:=by
 unfold qb at hb;split at hb<;>simp at hb
 all_goals rename_i hu
 all_goals subst hb
 ·cases a<;>simp[dX]at fa;cases b<;>simp[dX]at fb;rw[show x=_ from ha,show y=_ from hb'];simp[nC]at he;subst he;exact run_equalIn_bool w d t _ _ hu
 ·cases a<;>simp[dX]at fa;cases b<;>simp[dX]at fb;subst fa fb;rw[show x=_ from ha,show y=_ from hb'];simp[nC]at he;subst he;exact run_equalIn_int w d t _ _ _ _ hu
 ·cases a<;>simp[dX]at fa;cases b<;>simp[dX]at fb;obtain⟨p,rfl,hp⟩:=ha;obtain⟨q,rfl,hq⟩:=hb';simp[nC]at he;subst he;rw[run_equalIn_string w d t _ _ hu,Cx,Cx,hp,hq]
def OL{P:Program}{d:Nat}{xs ys:Array Value}{R R':aa->Value->Prop}:∀(fs:List Field)(off:Nat)(ks:List bY)(va vb:List aa)(la lb:List Value)(r:Bool),
  sq P off fs=some ks->bT ks va=true->bT ks vb=true->aF T w O va R la->aF T w O vb R' lb->xs.toList.drop off=la->ys.toList.drop off=lb->p7 va vb=some r->
  (Op.eqFields (d+1) xs ys fs).run P w=.ok r w
 | [],off,ks,va,vb,la,lb,r,hb,fa,fb,ra,rb,hx,hy,he=>by
  simp[sq]at hb;subst hb;cases va with
  |nil=>cases vb with
   |nil=>simp[p7]at he;subst he;rfl
   |cons=>simp[bT]at fb
  |cons=>simp[bT]at fa
 |f::fs,off,ks,va,vb,la,lb,r,hb,fa,fb,ra,rb,hx,hy,he=>by
  unfold sq at hb;split at hb
  ·rename_i k hk;split at hb
   ·rename_i hn;cases hq:sq P (off+1) fs with
    |none=>rw[hq]at hb;cases hb
    |some ks'=>
     rw[hq]at hb;simp at hb;subst hb;match va,vb,fa,fb,ra,rb,he with
     |a::va,b::vb,fa,fb,ra,rb,he=>
      rw[bT,au]at fa fb;obtain⟨x,la',rfl,h1,h2⟩:=ra;obtain⟨y,lb',rfl,h3,h4⟩:=rb;have X7:xs[off]? =some x:=by
       have:(xs.toList.drop off)[0]? =some x:=by rw[hx];rfl
       simpa using this
      have aJX:ys[off]? =some y:=by
       have:(ys.toList.drop off)[0]? =some y:=by rw[hy];rfl
       simpa using this
      have rS:(isAgg f.type).run P w=.ok false w:=by
       unfold qb at hk;split at hk<;>simp at hk
       all_goals (rename_i hu;simp[isAgg,dR hu])
      cases hv:nC a b with
      |none=>simp[p7,hv]at he
      |some r1=>
       cases hr:p7 va vb with
       |none=>simp[p7,hv,hr]at he
       |some r2=>
        simp[p7,hv,hr]at he;subst he;have h5:=aaa (P:=P) (d:=d) hk fa.1 fb.1 h1 h3 hv;have ih:=OL (d:=d) (xs:=xs) (ys:=ys) fs (off+1) ks' va vb la' lb' r2 hq fa.2 fb.2 h2 h4 (by rw[<-MZ,hx];rfl) (by rw[<-MZ,hy];rfl) hr;obtain⟨o6,oh⟩:=hn;simp only[Op.eqFields,o6,ne_eq,not_false_eq_true,if_true];have HW:(part f.type xs f.offset).run P w=.ok x w:=by rw[oh];simp[part,rS,X7]
        have qO:(part f.type ys f.offset).run P w=.ok y w:=by rw[oh];simp[part,rS,aJX]
        simp only[eh,HW,qO,h5,fD];cases r1
        ·rfl
        ·simpa using ih
     | [],_,fa,_,_,_,_=>simp[bT]at fa
     |_::_,[],_,fb,_,_,_=>simp[bT]at fb
   ·cases hb
  ·cases hb
def zW:Value->Bool | .int .. =>false | .float .. =>false | .complex .. =>false | .string _=>false |_=>true
def zX(h:zW x=true):binOp .eql t x y=(do pure (.bool (<-Op.equal t x y)))/\binOp .neq t x y=(do pure (.bool (!(<-Op.equal t x y)))):=by cases x<;>first |exact⟨rfl,rfl⟩ |cases h
def OM(d:Nat){a1 a2:Array TypeId}{a3:Bool}(hu:P.underlying t=some (.func a1 a2 a3))(f:Fn)(p q:Array Value):
  (Op.equalIn (d+1) t .nilFunc .nilFunc).run P w=.ok true w/\(Op.equalIn (d+1) t .nilFunc (.func f p q)).run P w=.ok false w/\(Op.equalIn (d+1) t (.func f p q) .nilFunc).run P w=.ok false w:=by
 refine⟨?_,?_,?_⟩<;>simp[Op.equalIn,dR hu]
def aab(d:Nat)(hu:P.underlying t=some (.pointer e))(p:Option Addr):
  (Op.equalIn (d+1) t (.pointer none) (.pointer p)).run P w=.ok p.isNone w/\(Op.equalIn (d+1) t (.pointer p) (.pointer none)).run P w=.ok p.isNone w:=by
 refine⟨?_,?_⟩
 ·simp[Op.equalIn,dR hu]
 ·cases p<;>simp[Op.equalIn,dR hu]
def aac(d:Nat){k:TypeId}(hu:P.underlying t=some (.map k e))(p:Option Nat):
  (Op.equalIn (d+1) t (.map none) (.map p)).run P w=.ok p.isNone w/\(Op.equalIn (d+1) t (.map p) (.map none)).run P w=.ok p.isNone w:=by
 refine⟨?_,?_⟩
 ·cases p<;>simp[Op.equalIn,dR hu]
 ·cases p<;>simp[Op.equalIn,dR hu]
def alO{b:aa}{r:Bool}{R:aa->Value->Prop}(row:dn P t ty)(ha:ax T w O a R x)(hb:ax T w O b R y)(he:Co ty a b=some r)
  (hp:∀i j z,R (.e i j) z->∃p,z=.pointer (some p))(qO:∀i g k j z,R (.H i g k j) z->∃p,z=.pointer (some p))(xm:∀i z,R (.F i) z->∃p,z=.map (some p)):
  (Op.equal t x y).run P w=.ok r w/\(∀op ox oy,(eqGuard op t ox oy x y).run P w=.ok () w)/\zW x=true:=by
 have ptr:∀{e:TypeId}(p q:Option Addr)(b:Bool),P.underlying t=some (.pointer e)->(p=none/\b=q.isNone\/q=none/\b=p.isNone)->x=.pointer p->y=.pointer q->
   (Op.equal t x y).run P w=.ok b w/\(∀op ox oy,(eqGuard op t ox oy x y).run P w=.ok () w)/\zW x=true:=by
  intro e p q b hu zq hx hy;subst hx hy;refine⟨?_,λop ox oy=>by cases op<;>rfl,rfl⟩;rcases zq with⟨rfl,rfl⟩ | ⟨rfl,rfl⟩
  ·exact(aab 9999 hu q).1
  ·exact(aab 9999 hu p).2
 unfold Co at he;split at he
 ·rename_i xs ys;split at he
  ·rename_i gs hd;split at he
   ·rename_i hf;simp only[au]at hf;obtain⟨fs,hu,_,_,_,hq⟩:=row.zV hd;obtain⟨pO,vh,zr⟩:=hq hf.1.1;obtain⟨p,rfl,h1⟩:=ha;obtain⟨q,rfl,h2⟩:=hb;have xo:P.fieldsOf t=fs:=by simp[Program.fieldsOf,hu]
    refine⟨?_,λop ox oy=>run_eqGuard_agg w op t ox oy p q zr,rfl⟩;rw[Op.equal,Op.maxDepth,run_equalIn_struct w 9999 t p q (by rw[xo];exact hu) vh,xo];exact OL (d:=9998) fs.toList 0 ty.d xs ys p.toList q.toList r pO hf.1.2 hf.2 h1 h2 rfl rfl he
   ·cases he
  ·cases he
 ·rename_i u v;split at he
  ·rename_i hd;obtain⟨hu,_⟩:=row.OF hd;rw[show x=_ from ha,show y=_ from hb];simp at he;subst he;exact⟨run_equal_bool w t u v hu,λop ox oy=>by cases op<;>rfl,rfl⟩
  ·cases he
 ·split at he
  ·rename_i e hd;have hu:=row.alG hd;unfold ZL at he;split at he<;>simp at he<;>subst he
   ·exact ptr none none _ hu (.inl ⟨rfl,rfl⟩) ha hb
   ·obtain⟨p,o,l,hy,_⟩:=hb;exact ptr none _ _ hu (.inl ⟨rfl,rfl⟩) ha hy
   ·obtain⟨p,hy⟩:=hp _ _ _ hb;exact ptr none _ _ hu (.inl ⟨rfl,rfl⟩) ha hy
   ·obtain⟨p,hy⟩:=qO _ _ _ _ _ hb;exact ptr none _ _ hu (.inl ⟨rfl,rfl⟩) ha hy
   ·obtain⟨p,o,l,hx,_⟩:=ha;exact ptr _ none _ hu (.inr ⟨rfl,rfl⟩) hx hb
   ·obtain⟨p,hx⟩:=hp _ _ _ ha;exact ptr _ none _ hu (.inr ⟨rfl,rfl⟩) hx hb
   ·obtain⟨p,hx⟩:=qO _ _ _ _ _ ha;exact ptr _ none _ hu (.inr ⟨rfl,rfl⟩) hx hb
  ·rename_i hd;obtain⟨a1,a2,a3,hu⟩:=row.alH hd;unfold ZM at he;split at he<;>simp at he<;>subst he
   ·rw[show x=_ from ha,show y=_ from hb];exact⟨(OM 9999 hu (.func 0) #[] #[]).1,λop ox oy=>by cases op<;>rfl,rfl⟩
   ·rw[show x=_ from ha];obtain⟨p',q',rfl,_⟩:=hb;exact⟨(OM 9999 hu _ _ _).2.1,λop ox oy=>by cases op<;>rfl,rfl⟩
   ·rw[show y=_ from hb];obtain⟨p',q',rfl,_⟩:=ha;exact⟨(OM 9999 hu _ _ _).2.2,λop ox oy=>by cases op<;>rfl,rfl⟩
  ·rename_i k e hd;have hu:=row.OD hd;have mp:∀(p q:Option Nat)(b:Bool),(p=none/\b=q.isNone\/q=none/\b=p.isNone)->x=.map p->y=.map q->
     (Op.equal t x y).run P w=.ok b w/\(∀op ox oy,(eqGuard op t ox oy x y).run P w=.ok () w)/\zW x=true:=by
    intro p q b zq hx hy;subst hx hy;refine⟨?_,λop ox oy=>by cases op<;>rfl,rfl⟩;rcases zq with⟨rfl,rfl⟩ | ⟨rfl,rfl⟩
    ·exact(aac 9999 hu q).1
    ·exact(aac 9999 hu p).2
   unfold ZN at he;split at he<;>simp at he<;>subst he
   ·exact mp none none _ (.inl ⟨rfl,rfl⟩) ha hb
   ·obtain⟨r,es,clk,hy,_⟩:=hb;exact mp none _ _ (.inl ⟨rfl,rfl⟩) ha hy
   ·obtain⟨p,hy⟩:=xm _ _ hb;exact mp none _ _ (.inl ⟨rfl,rfl⟩) ha hy
   ·obtain⟨r,es,clk,hx,_⟩:=ha;exact mp _ none _ (.inr ⟨rfl,rfl⟩) hx hb
   ·obtain⟨p,hx⟩:=xm _ _ ha;exact mp _ none _ (.inr ⟨rfl,rfl⟩) hx hb
  ·cases he
end
section
variable{P:Program}{T:TypeId->bz}{G:Nat->aa}{Z:Nat->Prop}{h view:Nat->aj}{β:Nat->bd}{w:World}
def pt(view h:Nat->aj):Prop:=∀i,view i=.c\/view i=h i
def pt.D(hv:pt view h){i:Nat}{o:aj}(he:view i=o)(ho:o≠ .c):h i=o:=by
 rcases hv i with h1 |h1
 ·rw[h1]at he;exact absurd he.symm ho
 ·rw[<-h1];exact he
def dH.D(hl:dH w b o l)(n:Nat):dH w b (o+n) (l.drop n):=by intro j u hj;rw[xf]at hj;have:=hl (n+j) u hj;rwa[<-qI]at this
def dH.I(hl:dH w b o l)(n:Nat):dH w b o (l.take n):=by
 intro j u hj;rw[rP]at hj;split at hj
 ·exact hl j u hj
 ·cases hj
def dH.U{arr:Array Value}{fr:Nat×Nat}(hb:w.heap[b]? =some (.cells arr e fr)):dH w b 0 arr.toList:=by intro j u hj;simp[World.cell?,hb];simpa using hj
def aad(hT:cH P T)(cx:cY T G Z h β w)(hv:pt view h){cs:List aa}(hr:ax T w (aY Z h β) v (bW T h β) x)(he:Cn T view v=some cs):
  ∃b o l,x=.pointer (some ⟨b,o,none⟩)/\dH w b o l/\aF T w (aY Z h β) cs (bW T h β) l:=by
 unfold Cn at he;split at he
 ·rename_i cs';obtain⟨b,o,l,rfl,_,_,h3,h4⟩:=hr;simp at he;subst he;exact⟨b,o,l,rfl,h3,aF.vT _ _ _ _ (λ_ _ _ h=>h.elim) h4⟩
 ·rename_i i j;split at he
  ·rename_i ro cs' hq;simp at he;subst he;have hi:=hv.D hq aB;obtain⟨_,hx⟩:=hr;have ho:=cx.c i;rw[hi]at ho;obtain⟨_,arr,e,h1,h2⟩:=ho;refine⟨(β i).a,j,(arr.toList.take cs'.length).drop j,hx,?_,h2.V j⟩;have:=((dH.U h1).I cs'.length).D j;rwa[gF]at this
  ·cases he
 ·rename_i i g k j;split at he
  ·rename_i ro g' t vs hq;split at he
   ·rename_i hg;simp at he;subst he;have l3:g=g':=iZ hg;have hi:=hv.D hq aB;obtain⟨ro2,g2,t2,vs2,jv,_,_,hx⟩:=hr;rw[hi]at jv;simp only[aj.b.injEq]at jv;obtain⟨rfl,rfl,rfl,rfl⟩:=jv;obtain⟨hk,hx⟩:=hx l3;have ho:=cx.c i;rw[hi]at ho;obtain⟨ht,ho | ⟨_,cur,_,_,_,_,h5⟩⟩:=ho
    ·rw[ho.2.1]at hk;simp at hk
    ·have j2:vs[k]? =some vs[k]:=cV hk;obtain⟨f1,f2,cs',h6,h7,h8⟩:=bN.U h5 j2;have om:vs[k]?.getD .m=vs[k]:=by simp[j2]
     rw[om,f2];refine⟨(β i).a,(β i).c+(k*(T t).a+j),cs'.drop j,hx,?_,?_⟩
     ·have:=h7.D j;rwa[qI]at this
     ·exact(aF.vT _ _ _ _ (λ_ _ _ h=>h.elim) (Cw (hT.D ht) f1 h6 h8)).V j
   ·cases he
  ·cases he
 ·cases he
def Fq(hT:cH P T)(ht:(T t).D=true)(hl:dH w b o l):
  ((T t).b=true->(T t).a<=l.length->(Instr.loadAt t (.pointer (some ⟨b,o,none⟩))).run P w=.ok (.agg (l.take (T t).a).toArray) w)/\
  ((T t).b=false->∀u r,l=u::r->(Instr.loadAt t (.pointer (some ⟨b,o,none⟩))).run P w=.ok u w):=by
 have row:=hT.D ht;refine⟨λha hs=> ?_,λha u r hu=> ?_⟩
 ·have hlen:(l.take (T t).a).length=(T t).a:=by simp;omega
  have hc:=run_loadCells_list (P:=P) w ⟨b,o,none⟩ (l.take (T t).a) (λj v hj=>by rw[i_];exact hl.I _ j v hj);rw[hlen]at hc;simp[Instr.loadAt,Instr.sureAddr,loadVar,row.Ct,ha,row.D,hc]
 ·subst hu;have:=hl 0 u rfl;rw[lW]at this;simp[Instr.loadAt,Instr.sureAddr,loadVar,row.Ct,ha,this]
def aO{b:Bool}{t:af α}{a:α}(h:(af.I b t).D=some a):b=true/\t.D=some a:=by
 cases b
 ·simp[af.I,af.D]at h
 ·exact⟨rfl,h⟩
def cm{α β:Type}:∀{t:af α}{f:α->af β}{b:β},(t.U f).D=some b->∃a,t.D=some a/\(f a).D=some b
 | .g a,f,b,h=>⟨a,rfl,h⟩
 | .c true t e,f,b,h=>cm (t:=t) h
 | .c false t e,f,b,h=>cm (t:=e) h
 | .d,f,b,h=>by simp[af.U,af.D]at h
def zY{α β:Type}:∀{t:af α}{f:α->af β}{a:α},t.D=some a->(t.U f).D=(f a).D
 | .g a,f,b,h=>by simp[af.D]at h;subst h;rfl
 | .c true t e,f,b,h=>zY (t:=t) h
 | .c false t e,f,b,h=>zY (t:=e) h
 | .d,f,b,h=>by simp[af.D]at h
def bN.I{T:TypeId->bz}{w:World}{O:Nat->Prop}{t b:Nat}:∀(vs:List aa)(o m:Nat){off:Nat},bN T w O vs t b off->bN T w O ((vs.drop o).take m) t b (off+o*(T t).a)
 | [],o,m,off,_=>by simp;exact trivial
 |v::vs,0,0,off,_=>by simp;exact trivial
 |v::vs,0,m+1,off,hs=>by simp only[oc,List.take_succ_cons,Em,lW];have:=bN.I vs 0 m hs.2.2;simp only[oc,Em,lW]at this;exact⟨hs.1,hs.2.1,this⟩
 |v::vs,o+1,m,off,hs=>by rw[List.drop_succ_cons];have:=bN.I vs o m hs.2.2;rwa[lu,show off+(o*(T t).a+(T t).a)=off+(T t).a+o*(T t).a from ab]
def alP(cx:cY T G Z h β w)(hv:pt view h)(hr:ax T w (aY Z h β) v (bW T h β) x)(he:Om view v=some (t,vs)):
  ∃a cap,x=.slice a vs.length cap/\vs.length<=cap/\(vs=[]\/∃b o,a=some ⟨b,o,none⟩/\b<w.heap.size/\bN T w (aY Z h β) vs t b o):=by
 have ajq:∀{i ro g vs'},h i=.b ro g t vs'->((β i).d=true/\vs'=[]/\(β i).b=0)\/((β i).d=false/\vs'.length<=(β i).b/\(β i).a<w.heap.size/\bN T w (aY Z h β) vs' t (β i).a (β i).c):=by
  intro i ro g vs' hi;have ho:=cx.c i;rw[hi]at ho;obtain⟨_,ho | ⟨hn,cur,h1,h2,_,_,h5⟩⟩:=ho
  ·exact .inl ho
  ·exact .inr ⟨hn,h2,(Array.getElem?_eq_some_iff.1 h1).1,h5⟩
 unfold Om at he;split at he
 ·simp at he;obtain⟨rfl,rfl⟩:=he;obtain⟨a,cap,rfl,h1,h2 | ⟨b,o,rfl,h3,_,h4⟩⟩:=hr
  ·exact⟨a,cap,rfl,h1,.inl h2⟩
  ·exact⟨_,cap,rfl,h1,.inr ⟨b,o,rfl,h3,h4⟩⟩
 ·simp at he;obtain⟨rfl,rfl⟩:=he;obtain⟨a,rfl,h2 | ⟨b,o,rfl,h3,_,h4⟩⟩:=hr
  ·exact⟨a,_,rfl,bj _,.inl h2⟩
  ·exact⟨_,_,rfl,bj _,.inr ⟨b,o,rfl,h3,h4⟩⟩
 ·simp at he;obtain⟨rfl,rfl⟩:=he;exact⟨none,0,hr,bj _,.inl rfl⟩
 ·rename_i i g n;split at he
  ·rename_i ro g' t' vs' hq;split at he
   ·rename_i hg;simp at he;obtain⟨rfl,rfl⟩:=he;have l3:g=g':=iZ hg;have hi:=hv.D hq aB;obtain⟨ro2,g2,t2,vs2,jv,_,_,hx⟩:=hr;rw[hi]at jv;simp only[aj.b.injEq]at jv;obtain⟨rfl,rfl,rfl,rfl⟩:=jv;obtain⟨rfl,rfl,rfl⟩:=hx l3;rcases ajq hi with⟨h1,h2,h3⟩ | ⟨h1,h2,h3,h4⟩
    ·exact⟨_,_,rfl,by rw[h2];exact ik _,.inl h2⟩
    ·exact⟨_,_,rfl,h2,.inr ⟨_,_,by simp[bd.D,h1],h3,h4⟩⟩
   ·cases he
  ·cases he
 ·rename_i i g o m;split at he
  ·rename_i ro g' t' vs' hq;split at he
   ·rename_i hg;simp at he;obtain⟨rfl,rfl⟩:=he;have l3:g=g':=iZ hg;have hi:=hv.D hq aB;obtain⟨ro2,g2,t2,vs2,jv,_,_,hx⟩:=hr;rw[hi]at jv;simp only[aj.b.injEq]at jv;obtain⟨rfl,rfl,rfl,rfl⟩:=jv;obtain⟨rfl,xq,a,rfl,cL⟩:=hx l3;have hlen:((vs'.drop o).take m).length=m:=by simp;omega
    rw[hlen];rcases ajq hi with⟨h1,h2,h3⟩ | ⟨h1,h2,h3,h4⟩
    ·subst h2;simp at xq;obtain⟨_,rfl⟩:=xq;exact⟨_,_,rfl,ik _,.inl aB⟩
    ·refine⟨_,_,rfl,ab,?_⟩;by_cases hm:m=0
     ·subst hm;exact .inl aB
     ·refine .inr ⟨_,_,cL ab,h3,?_⟩;exact bN.I vs' o m h4
   ·cases he
  ·cases he
 ·cases he
end
structure ed(E:bD)(P:Program)(Z:Nat->Prop)(h view:Nat->aj)(β:Nat->bd)(w:World)(s:Nat->aa)(a:Act):Prop where
 b:cH P E.a
 d:cY E.a E.b Z h β w
 e:pt view h
 f:qd E.a w (aY Z h β) (bW E.a h β) s a
section
variable{E:bD}{P:Program}{Z:Nat->Prop}{h view:Nat->aj}{β:Nat->bd}{w:World}{s:Nat->aa}{a:Act}{fr:Nat}{o:Oper}{r:di}
def fM(E:bD)(P:Program)(Z:Nat->Prop)(h:Nat->aj)(β:Nat->bd)(w:World)(a:Act)(o:Oper)(r:di):Prop:=
 ∃v x,r=.a v []/\(execOp a.eval o).run P w=.ok (.value x) w/\ax E.a w (aY Z h β) v (bW E.a h β) x
def ed.D(c:ed E P Z h view β w s a)(x:Operand):ax E.a w (aY Z h β) (AH.aN E s x) (bW E.a h β) (a.eval x):=c.f.I (λg=>(c.d.n g).1) x
def ed.I(c:ed E P Z h view β w s a):∀(xs:List Operand),aF E.a w (aY Z h β) (xs.map (AH.aN E s)) (bW E.a h β) (xs.map a.eval)
 | []=>rfl
 |x::xs=>⟨_,_,rfl,c.D x,c.I xs⟩
def aae(c:ed E P Z h view β w s a){x:Operand}(ho:o.op=.move x)(he:(cj E view s fr o).D=some r):fM E P Z h β w a o r:=by simp only[cj,ho,af.D,Option.some.injEq]at he;exact⟨_,_,he.symm,by simp[execOp,ho],c.D x⟩
def aaf(c:ed E P Z h view β w s a){x y z:Operand}(ho:o.op=.pick x y z)(he:(cj E view s fr o).D=some r):fM E P Z h β w a o r:=by
 simp only[cj,ho]at he;split at he
 ·rename_i t ht;have hx:=c.D x;rw[ht]at hx;have hb:a.eval x=.bool t:=hx;cases t
  ·simp only[af.D,Option.some.injEq]at he;exact⟨_,_,he.symm,by simp[execOp,ho,hb,asBool],c.D z⟩
  ·simp only[af.D,Option.some.injEq]at he;exact⟨_,_,he.symm,by simp[execOp,ho,hb,asBool],c.D y⟩
 ·simp[af.D]at he
def alQ(c:ed E P Z h view β w s a){x:Operand}{n:Nat}(ho:o.op=.extract x n)(he:(cj E view s fr o).D=some r):fM E P Z h β w a o r:=by
 simp only[cj,ho]at he;split at he
 ·rename_i vs ht;have hx:=c.D x;rw[ht]at hx;obtain⟨arr,hb,hl⟩:=hx;cases hn:vs[n]? with
  |none=>simp[hn,kC,af.D]at he
  |some v=>
   simp only[hn,kC,af.D,Option.some.injEq]at he;obtain⟨y,h1,h2⟩:=aF.vU n v hl hn;have h1':arr[n]? =some y:=by simpa using h1
   exact⟨v,y,he.symm,by simp[execOp,ho,hb,Instr.extract,h1'],h2⟩
 ·simp[af.D]at he
def aag(c:ed E P Z h view β w s a){x:Operand}(ho:o.op=.load t x)(he:(cj E view s fr o).D=some r):fM E P Z h β w a o r:=by
 simp only[cj,ho]at he;cases ht:(E.a t).D with
 |false=>rw[ht]at he;exact absurd he (λh=>by cases h)
 |true=>
  rw[ht]at he;simp only at he;cases hq:Cn E.a view (aN E s x)with
  |none=>rw[hq]at he;exact absurd he (λh=>by cases h)
  |some cs=>
   rw[hq]at he;simp only[kC]at he;obtain⟨b,off,l,hx,hl,hr⟩:=aad c.b c.d c.e (c.D x) hq;obtain⟨r1,r2⟩:=Fq (P:=P) c.b ht hl;have hlen:=hr.I;cases ha:(E.a t).b with
   |true=>
    simp only[ha]at he;cases hs:Nat.ble (E.a t).a cs.length with
    |false=>simp[hs,af.D]at he
    |true=>
     simp only[hs,af.D,Option.some.injEq]at he;have hs':(E.a t).a<=l.length:=by rw[hlen];exact ft hs
     exact⟨_,.agg (l.take (E.a t).a).toArray,he.symm,by simp[execOp,ho,hx,r1 ha hs'],⟨_,rfl,by simpa using hr.so _⟩⟩
   |false=>
    simp only[ha]at he;cases cs with
    |nil=>simp[af.D]at he
    |cons u cs=>simp only[af.D,Option.some.injEq]at he;obtain⟨y,rest,rfl,h1,_⟩:=hr;exact⟨_,_,he.symm,by simp[execOp,ho,hx,r2 ha y rest rfl],h1⟩
def aah(c:ed E P Z h view β w s a){op:UnOp}{x:Operand}(ho:o.op=.unOp op t x)(he:(cj E view s fr o).D=some r):fM E P Z h β w a o r:=by
 simp only[cj,ho]at he;have hx:=c.D x;split at he
 ·rename_i b hb;rw[hb]at hx;have hx':a.eval x=.bool b:=hx;simp only[af.D,Option.some.injEq]at he;exact⟨_,_,he.symm,by simp[execOp,ho,hx',Op.unary],rfl⟩
 ·rename_i k n hb;rw[hb]at hx;have hx':a.eval x=.int k n:=hx;simp only[af.D,Option.some.injEq]at he;exact⟨_,_,he.symm,by simp[execOp,ho,hx',Op.unary,Op.intArith],rfl⟩
 ·rename_i k n hb;rw[hb]at hx;have hx':a.eval x=.int k n:=hx;simp only[af.D,Option.some.injEq]at he;exact⟨_,_,he.symm,by simp[execOp,ho,hx',Op.unary,Op.intBits],rfl⟩
 ·simp[af.D]at he
def xS{k k':IntKind}{x y:Int}:eqGuard op t ox oy (.int k x) (.int k' y)=pure ():=by cases op<;>rfl
def alR{x y:ByteArray}:eqGuard op t ox oy (.string x) (.string y)=pure ():=by cases op<;>rfl
def ON{P:Program}{w:World}(d:Nat)(hu:P.underlying t=some (.interface ms))(u:TypeId)(z:Value):
  (Op.equalIn (d+1) t .nilIface .nilIface).run P w=.ok true w/\(Op.equalIn (d+1) t .nilIface (.iface u z)).run P w=.ok false w/\(Op.equalIn (d+1) t (.iface u z) .nilIface).run P w=.ok false w:=by
 refine⟨?_,?_,?_⟩<;>simp[Op.equalIn,dR hu]
def aai{P:Program}{w:World}(hu:P.underlying t=some (.interface ms)){u:aa}{b:Bool}(hp:ax T w O u R p)(hq:ax T w O v R q)(he:I4 u v=some b){x y:Operand}(hc:(zQ x ||zQ y)=true):
  (Op.equal t p q).run P w=.ok b w/\(∀op,(eqGuard op t x y p q).run P w=.ok () w)/\zW p=true:=by
 unfold I4 at he;split at he
 ·simp at he;subst he;rw[show p=_ from hp,show q=_ from hq];refine⟨(ON 9999 hu 0 .nilIface).1,λop=> ?_,rfl⟩;cases op<;>first |rfl | (cases x<;>first |rfl | (cases y<;>first |rfl | (simp[zQ]at hc)))
 ·simp at he;subst he;obtain⟨z,rfl,_⟩:=hq;rw[show p=_ from hp];exact⟨(ON 9999 hu _ _).2.1,λop=>by cases op<;>rfl,rfl⟩
 ·simp at he;subst he;obtain⟨z,rfl,_⟩:=hp;rw[show q=_ from hq];exact⟨(ON 9999 hu _ _).2.2,λop=>by cases op<;>rfl,rfl⟩
 ·cases he
def Ji{P:Program}{w:World}(d:Nat)(hu:P.underlying t=some (.slice e))(a:Option Addr)(n k:Nat):
  (Op.equalIn (d+1) t (.slice a n k) (.slice none 0 0)).run P w=.ok a.isNone w:=by
 cases a<;>simp[Op.equalIn,dR hu]
def aaj{P:Program}{w:World}(hu:P.underlying t=some (.slice e)){u:aa}{b:Bool}(hp:ax T w O u R p){x y:Operand}(he:I5 y u=some b)(hq:∀v,y=.const v->q=v):
  (Op.equal t p q).run P w=.ok b w/\(∀op,(eqGuard op t x y p q).run P w=.ok () w)/\zW p=true:=by
 unfold I5 at he;split at he
 ·simp at he;subst he;rw[hq _ rfl,show p=_ from hp];exact⟨Ji 9999 hu _ _ _,λop=>by cases op<;>rfl,rfl⟩
 ·simp at he;subst he;obtain⟨a,cap,rfl,_,h | ⟨bb,o,rfl,_⟩⟩:=hp
  ·cases h
  ·rw[hq _ rfl];exact⟨Ji 9999 hu _ _ _,λop=>by cases op<;>rfl,rfl⟩
 ·simp at he;subst he;obtain⟨a,rfl,h | ⟨bb,o,rfl,_⟩⟩:=hp
  ·cases h
  ·rw[hq _ rfl];exact⟨Ji 9999 hu _ _ _,λop=>by cases op<;>rfl,rfl⟩
 ·cases he
def alS(c:ed E P Z h view β w s a){ty:TypeId}{x y:Operand}(ho:o.op=.binOp op t x y ty)(he:(cj E view s fr o).D=some r):fM E P Z h β w a o r:=by
 simp only[cj,ho]at he;split at he
 ·rename_i b hN;split at he
  ·rename_i e hd;obtain⟨hu,_⟩:=(c.b.D (by unfold bz.D;rw[hd])).I hd;obtain⟨h1,h2,h3⟩:=aaj (P:=P) (x:=x) hu (c.D x) hN (q:=a.eval y) (λv hv=>by rw[hv];rfl);simp only[af.D,Option.some.injEq]at he;exact⟨_,.bool b,he.symm,by simp[execOp,ho,(zX h3).1,h1,h2],rfl⟩
  ·rename_i e hd;obtain⟨hu,_⟩:=(c.b.D (by unfold bz.D;rw[hd])).I hd;obtain⟨h1,h2,h3⟩:=aaj (P:=P) (x:=x) hu (c.D x) hN (q:=a.eval y) (λv hv=>by rw[hv];rfl);simp only[af.D,Option.some.injEq]at he;exact⟨_,.bool !b,he.symm,by simp[execOp,ho,(zX h3).2,h1,h2],rfl⟩
  ·simp[af.D]at he
 split at he
 ·rename_i b hI;split at he
  ·rename_i hd hc;obtain⟨ms,hu⟩:=(c.b.D (by unfold bz.D;rw[hd])).Z0 hd;obtain⟨h1,h2,h3⟩:=aai (P:=P) hu (c.D x) (c.D y) hI hc;simp only[af.D,Option.some.injEq]at he;exact⟨_,.bool b,he.symm,by simp[execOp,ho,(zX h3).1,h1,h2],rfl⟩
  ·rename_i hd hc;obtain⟨ms,hu⟩:=(c.b.D (by unfold bz.D;rw[hd])).Z0 hd;obtain⟨h1,h2,h3⟩:=aai (P:=P) hu (c.D x) (c.D y) hI hc;simp only[af.D,Option.some.injEq]at he;exact⟨_,.bool !b,he.symm,by simp[execOp,ho,(zX h3).2,h1,h2],rfl⟩
  ·simp[af.D]at he
 replace he:=he
 obtain⟨v,h1,h2⟩:=cm he;simp only[af.D,Option.some.injEq]at h2;have hx:=c.D x;have hy:=c.D y;have fin:∀z,(binOp op t (a.eval x) (a.eval y)).run P w=.ok z w->(eqGuard op t x y (a.eval x) (a.eval y)).run P w=.ok () w->ax E.a w (aY Z h β) v (bW E.a h β) z->fM E P Z h β w a o r:=
  λz hz hg hr=>⟨v,z,h2.symm,by simp[execOp,ho,hz,hg],hr⟩
 unfold xM at h1;split at h1
 ·rename_i k p k' q e1 e2;rw[e1]at hx;rw[e2]at hy;have hx':a.eval x=.int k p:=hx;have hy':a.eval y=.int k' q:=hy;have hg:(eqGuard op t x y (a.eval x) (a.eval y)).run P w=.ok () w:=by rw[hx',hy',xS];rfl
  split at h1
  ·obtain⟨h3,h4⟩:=aO h1;simp only[af.D,Option.some.injEq]at h4;subst h4;refine fin _ ?_ hg rfl;rw[hx',hy'];show Sem.run P (if q<0 then _ else _) w=_;rw[if_neg (by simpa using h3)];rfl
  ·obtain⟨h3,h4⟩:=aO h1;simp only[af.D,Option.some.injEq]at h4;subst h4;refine fin _ ?_ hg rfl;rw[hx',hy'];show Sem.run P (if q<0 then _ else _) w=_;rw[if_neg (by simpa using h3)];rfl
  ·rename_i n1 n2;split at h1
   ·rename_i hk;have j2:k=k':=by simpa using hk
    subst j2;obtain⟨z,h3,h4⟩:=alM (T:=E.a) (w:=w) (O:=aY Z h β) (P:=P) t n1 n2 h1;exact fin z (by rw[hx',hy'];exact h3) hg (h4 _)
   ·simp[af.D]at h1
 ·rename_i p q e1 e2;rw[e1]at hx;rw[e2]at hy;obtain⟨b1,hx',h5⟩:=hx;obtain⟨b2,hy',h6⟩:=hy;have hg:(eqGuard op t x y (a.eval x) (a.eval y)).run P w=.ok () w:=by rw[hx',hy',alR];rfl
  obtain⟨z,h3,h4⟩:=alN (T:=E.a) (w:=w) (O:=aY Z h β) (P:=P) t t (E.a t) h5 h6 (by unfold xM;exact h1);exact fin z (by rw[hx',hy'];exact h3) hg (h4 _)
 ·rename_i n1 n2;have key:∀b,Co (E.a t) (aN E s x) (aN E s y)=some b->(E.a t).D=true/\(Op.equal t (a.eval x) (a.eval y)).run P w=.ok b w/\(∀op ox oy,(eqGuard op t ox oy (a.eval x) (a.eval y)).run P w=.ok () w)/\zW (a.eval x)=true:=λb hb=>by
   have ht:(E.a t).D=true:=by unfold Co at hb;unfold bz.D;split at hb<;>split at hb<;>first | (rename_i hd;rw[hd];done) | (cases hb;done)
   exact⟨ht,alO (c.b.D ht) hx hy hb (λi j z hz=>⟨_,hz.2⟩) (λi g k j z hz=>by
    obtain⟨ro,g',t',vs,_,_,⟨b,o,hq⟩,_⟩:=hz;exact⟨_,hq⟩) (λi z hz=>⟨_,hz.2⟩)⟩
  split at h1
  ·split at h1
   ·rename_i b hb;obtain⟨_,h3,h4,h5⟩:=key b hb;simp only[af.D,Option.some.injEq]at h1;subst h1;exact fin (.bool b) (by rw[(zX h5).1];simp[h3]) (h4 _ _ _) rfl
   ·simp[af.D]at h1
  ·split at h1
   ·rename_i b hb;obtain⟨_,h3,h4,h5⟩:=key b hb;simp only[af.D,Option.some.injEq]at h1;subst h1;exact fin (.bool !b) (by rw[(zX h5).2];simp[h3]) (h4 _ _ _) rfl
   ·simp[af.D]at h1
  ·simp[af.D]at h1
end
section
variable{E:bD}{P:Program}{Z:Nat->Prop}{h view:Nat->aj}{β:Nat->bd}{w:World}{s:Nat->aa}{a:Act}{fr:Nat}{o:Oper}{r:di}
def alT(c:ed E P Z h view β w s a){f:FuncId}{x y:Array Operand}(ho:o.op=.makeFunc (.func f) x y)(he:(cj E view s fr o).D=some r):fM E P Z h β w a o r:=by simp only[cj,ho,af.D,Option.some.injEq]at he;exact⟨_,.func (.func f) (x.map a.eval) (y.map a.eval),he.symm,by simp[execOp,ho,Instr.makeFunc],⟨_,_,rfl,by simpa using c.I x.toList,by simpa using c.I y.toList⟩⟩
def OO{a b c:Bool}(h:(a &&b &&c)=true):a=true/\b=true/\c=true:=by simpa[and_assoc] using h
def OP{x:Option Operand}{d n:Int}(c:ed E P Z h view β w s a)(he:ow E s x d=some n):(x=none/\n=d)\/∃y k,x=some y/\a.eval y=.int k n:=by
 unfold ow at he;split at he
 ·rename_i y;have hx:=c.D y;split at he
  ·rename_i k m hq;rw[hq]at hx;simp at he;subst he;exact .inr ⟨y,k,rfl,hx⟩
  ·cases he
 ·simp at he;exact .inl ⟨rfl,he.symm⟩
def aak{isS:Bool}{len cap:Nat}{l hh:Int}(c:ed E P Z h view β w s a)
  (hl:ow E s lo 0=some l)(ajr:ow E s hi len=some hh)(h0:0<=l)(h1:l<=hh)(h2:hh<=cap):
  (Instr.sliceBounds isS len cap (lo.map a.eval) (hi.map a.eval) none).run P w=.ok (l.toNat,hh.toNat,cap) w:=by
 have h3:(hh.toNat:Int)=hh:=Int.toNat_of_nonneg ab;have h4:0<=hh:=ab;rcases OP c hl with⟨rfl,rfl⟩ | ⟨y,k',rfl,hy⟩
 ·rcases OP c ajr with⟨rfl,rfl⟩ | ⟨x,k,rfl,hx⟩
  ·simp[Instr.sliceBounds]
  ·simp only[Bv,jt,hx];simp[Instr.sliceBounds,En,h4,h2]
 ·rcases OP c ajr with⟨rfl,rfl⟩ | ⟨x,k,rfl,hx⟩
  ·simp only[Bv,jt,hy];simp[Instr.sliceBounds,En,h0,h1]
  ·simp only[jt,hx,hy];have hb:=En (P:=P) w k' l hh.toNat .sliceB h0 ab;have eT:∀code,(Instr.sliceBound (.int k hh) cap code).run P w=.ok hh.toNat w:=λcode=>En (P:=P) w k hh cap code h4 h2;simp[Instr.sliceBounds,eT,hb]
def alU(b:ByteArray)(i j:Nat):(b.extract i j).data.toList=(b.data.toList.drop i).take (j-i):=by rw[ByteArray.data_extract,XJ]
def aV{a:Nat}(h:Nat.beq a b=true):a=b:=iZ h
def OQ:∀(ks:List bY)(cs:List aa)(j:Nat)(v:aa),bT ks cs=true->(∀i:Nat,v.D (j+i)=cs.getD i .m)->bT ks (gJ ks j v)=true
 | [],[],_,_,_,_=>rfl
 | [],_::_,_,_,h,_=>by simp[bT]at h
 |_::_,[],_,_,h,_=>by simp[bT]at h
 |k::ks,c::cs,j,v,h,hv=>by
  rw[bT,au]at h;have h0:=hv 0;rw[lW,XH]at h0;rw[gJ,bT,au,h0];refine⟨ZY h.1,OQ ks cs (j+1) v h.2 (λi=> ?_)⟩;have:=hv (i+1);rw[XI]at this;rw[<-this];congr 1
  omega
def Jj(h:cA ty v=true):cA ty (dm ty v)=true:=by
 obtain⟨size,agg,bytes,kinds,d,eq⟩:=ty;cases agg with
 |true=>cases v<;>simp[cA]at h;exact OQ kinds _ 0 _ h (λi=>by simp[aa.D,aa.V])
 |false=>
  match kinds,h with
  | [k],h=>exact ZY h
  | [],h=>simp[cA]at h
  |_::_::_,h=>simp[cA]at h
def aal{T:TypeId->bz}{w:World}{O:Nat->Prop}{e:TypeId}(row:dn P e (T e))(ha:(T e).b=false)(hs:(T e).a=1){b:Nat}:∀(vs:List aa)(l:List Value)(o:Nat),aF T w O vs bh l->dH w b o l->vs.all (cA (T e))=true->bN T w O (vs.map (dm (T e))) e b o
 | [],_,_,_,_,_=>trivial
 |v::vs,l,o,hr,hl,hf=>by
  obtain⟨x,r,rfl,h1,h2⟩:=hr;rw[ja,au]at hf;refine⟨⟨Jj hf.1,Jc _ _⟩,⟨[x],by rw[hs];rfl,λj u hj=> ?_,?_⟩,?_⟩
  ·cases j with
   |zero=>exact hl 0 u (by simpa using hj)
   |succ j=>simp at hj
  ·rw[ha];exact h1.Fk hf.1
  ·rw[hs];exact aal row ha hs vs r (o+1) h2 (λj u hj=>by
    have:=hl (j+1) u (by simpa using hj);rw[show o+1+j=o+(j+1)from ab];exact this) hf.2
def alV(c:ed E P Z h view β w s a){x:Operand}(ho:o.op=.slice t x lo hi none)(he:(cj E view s fr o).D=some r):fM E P Z h β w a o r:=by
 simp only[cj,ho]at he;have hx:=c.D x;generalize hL:ow E s lo 0=L at he;split at he
 ·rename_i b hd hb;rw[hb]at hx;obtain⟨sb,hx,nk⟩:=hx;have ht:(E.a t).D=true:=by unfold bz.D;rw[hd]
  obtain⟨hu,_⟩:=(c.b.D ht).Cu hd;generalize hH:ow E s hi b.length=H at he;cases L with
  |none=>simp[af.D]at he
  |some l=>
   cases H with
   |none=>simp[af.D]at he
   |some hh=>
    obtain⟨h1,h2⟩:=aO he;obtain⟨h3,h4,h5⟩:=OO h1;simp only[bC]at h3 h4 h5;simp only[af.D,Option.some.injEq]at h2;have bE:sb.size=b.length:=by rw[<-nk];rfl
    have bm:=aak (P:=P) (isS:=false) (len:=sb.size) (cap:=sb.size) c hL (by rw[bE];exact hH) h3 h4 ab;refine⟨_,.string (sb.extract l.toNat hh.toNat),h2.symm,?_,⟨_,rfl,by rw[alU,nk]⟩⟩;simp only[execOp,ho,Bv];rw[eh,run_sliceAt_string (P:=P) w t _ _ _ _ hu,hx];simp[Instr.slice,dR hu,bm]
 ·rename_i e hd;have ht:(E.a t).D=true:=by unfold bz.D;rw[hd]
  obtain⟨hu,_⟩:=(c.b.D ht).I hd;split at he
  ·rename_i len hq hlen;have row:=c.b.D hq;generalize hH:ow E s hi len=H at he;cases L with
   |none=>simp[af.D]at he
   |some l=>
    cases H with
    |none=>simp[af.D]at he
    |some hh=>
     obtain⟨h1,h2⟩:=aO he;obtain⟨h3,h4,h5⟩:=OO h1;simp only[bC]at h3 h4 h5;have fin:∀(ad:Option Addr)(cap:Nat)(v:aa),a.eval x=.slice ad len cap->len<=cap->r=.a v []->
       ax E.a w (aY Z h β) v (bW E.a h β) (sliced ad l.toNat hh.toNat cap (E.a e).a)->fM E P Z h β w a o r:=by
      intro ad cap v hv hc hr eo;refine⟨v,_,hr,?_,eo⟩;have bm:=aak (P:=P) (isS:=true) (cap:=cap) c hL hH h3 h4 ab;have im:P.elem t=e:=by simp[Program.elem,hu]
      simp only[execOp,ho,Bv];rw[eh,XK (P:=P) w t _ _ _ _ (by rw[im];exact hu),hv];simp[Instr.slice,dR hu,bm,row.D,sliced]
     split at h2
     ·rename_i t' vs hv;rw[hv]at hx hlen;simp[xL]at hlen;subst hlen;split at h2
      ·rename_i iq;simp only[af.D,Option.some.injEq]at h2;obtain⟨ad,cap,hx,hc,cL⟩:=hx;refine fin ad cap _ hx hc h2.symm ?_;by_cases EH:vs=[]
       ·subst EH;have tF:l.toNat=0:=by simp at h5;omega
        have aJY:hh.toNat=0:=by simp at h5;omega
        rw[tF,aJY];exact⟨_,_,rfl,ik _,.inl aB⟩
       ·rcases cL with cL | ⟨b,off,rfl,hb,hO,hs⟩
        ·exact absurd cL EH
        ·have BF:t'=e:=by
          rcases Bool.or_eq_true_iff.1 iq with h6 |h6
          ·exact aV h6
          ·exact absurd (by simpa using h6) EH
         subst BF;have X8:((vs.drop l.toNat).take (hh.toNat-l.toNat)).length=hh.toNat-l.toNat:=by simp;omega
         refine⟨_,cap-l.toNat,by rw[X8];rfl,by rw[X8];omega,?_⟩;by_cases hz:hh.toNat-l.toNat=0
         ·left;rw[hz];simp
         ·right;refine⟨b,off+l.toNat*(E.a t').a,?_,hb,hO,bN.I vs _ _ hs⟩;rw[if_neg ab];simp[i_]
      ·simp[af.D]at h2
     ·rename_i t' i g n hv;rw[hv]at hx hlen;simp[xL]at hlen;subst hlen;split at h2
      ·rename_i iq;have BF:t'=e:=aV iq;subst BF;simp only[af.D,Option.some.injEq]at h2;obtain⟨ro,g',tt,vs,hi,hg,⟨ad,cap,hx,hc,BG⟩,cL⟩:=hx;refine fin ad cap _ hx hc h2.symm ⟨ro,g',tt,vs,hi,hg,⟨_,cap-l.toNat,rfl,ab,λbL=> ?_⟩,λl3=> ?_⟩
       ·obtain⟨b,off,rfl⟩:=BG ab;refine⟨b,off+l.toNat*(E.a t').a,?_⟩;split<;>first |omega | (simp[i_];done)
       ·obtain⟨rfl,rfl,iJ⟩:=cL l3;rw[hx]at iJ;simp only[Value.slice.injEq,true_and]at iJ;obtain⟨rfl,rfl⟩:=iJ;refine⟨rfl,ab,_,rfl,λbL=> ?_⟩;have dd:=c.d.c i;rw[hi]at dd;obtain⟨_,dd | ⟨hn,_⟩⟩:=dd
        ·rw[dd.2.2]at bL;simp at bL
        ·simp only[bd.D,hn];rw[if_neg ab];simp[i_]
      ·simp[af.D]at h2
     ·rename_i t' i g o2 n hv;rw[hv]at hx hlen;simp[xL]at hlen;subst hlen;split at h2
      ·rename_i iq;have BF:t'=e:=aV iq;subst BF;simp only[af.D,Option.some.injEq]at h2;obtain⟨ro,g',tt,vs,hi,hg,⟨ad,cap,hx,hc,BG⟩,cL⟩:=hx;refine fin ad cap _ hx hc h2.symm ⟨ro,g',tt,vs,hi,hg,⟨_,cap-l.toNat,rfl,ab,λbL=> ?_⟩,λl3=> ?_⟩
       ·obtain⟨b,off,rfl⟩:=BG ab;refine⟨b,off+l.toNat*(E.a t').a,?_⟩;split<;>first |omega | (simp[i_];done)
       ·obtain⟨rfl,hle,ad2,iJ,X9⟩:=cL l3;rw[hx]at iJ;simp only[Value.slice.injEq,true_and]at iJ;obtain⟨rfl,rfl⟩:=iJ;have HX:(β i).b- (o2+l.toNat)=(β i).b-o2-l.toNat:=ab;refine⟨rfl,ab,?_⟩;rw[HX];refine⟨_,rfl,λbL=> ?_⟩;rw[if_neg ab];rw[X9 ab];simp[i_,tu]
      ·simp[af.D]at h2
     ·simp[af.D]at h2
  ·simp[af.D]at he
 ·rename_i n e cs hd hv;have ht:(E.a t).D=true:=by unfold bz.D;rw[hd]
  obtain⟨hu,_⟩:=(c.b.D ht).Je hd;split at he
  ·split at he
   ·rename_i hq;simp only[au,kr]at hq;obtain⟨⟨⟨bH,np⟩,hle⟩,il⟩:=hq;simp only[af.D,Option.some.injEq]at he;have row:=c.b.D bH;have ir:(E.a e).a=1:=(row.V np).1;rw[hv]at hx;obtain⟨b,off,l,hx,h1,h2,h3,h4⟩:=hx;have aJZ:=ft hle;have EI:=h4.I;have jw:=aal row np ir (cs.take n) (l.take n) off (h4.so n) (h3.I n) il;have hlen:((cs.take n).map (dm (E.a e))).length=n:=by simp;omega
    have ajs:P.elem t=e:=by simp[Program.elem,hu]
    have ajt:P.arrayLen t=n:=by simp[Program.arrayLen,hu]
    have bm:=run_sliceAt_array_all (P:=P) w t ⟨b,off,none⟩ (by rw[ajs,ajt];exact hu);rw[ajs,ajt,row.D]at bm;refine⟨_,.slice (some ⟨b,off,none⟩) n n,he.symm,?_,⟨_,n,by rw[hlen],by rw[hlen];exact bj _,.inr ⟨b,off,rfl,h1,h2,jw⟩⟩⟩;simp only[execOp,ho,Bv];rw[eh,hx,bm];simp[slicedAt,i_]
   ·simp[af.D]at he
  ·simp[af.D]at he
 ·simp[af.D]at he
def alW(c:ed E P Z h view β w s a){x hi mx:Operand}(ho:o.op=.slice t x none (some hi) (some mx))(he:(cj E view s fr o).D=some r):fM E P Z h β w a o r:=by
 simp only[cj,ho]at he;have hx:=c.D x;have hh:=c.D hi;have hm:=c.D mx;split at he
 ·rename_i e t' vs k n k' n' hd aJ0 aJ1 aJ2;rw[aJ0]at hx;rw[aJ1]at hh;rw[aJ2]at hm;split at he
  ·rename_i hq;rw[au]at hq;obtain⟨bH,iq⟩:=hq;obtain⟨h1,h2⟩:=aO he;obtain⟨h3,h4,h5⟩:=OO h1;simp only[bC]at h3 h4 h5;subst h5;simp only[af.D,Option.some.injEq]at h2;have ht:(E.a t).D=true:=by unfold bz.D;rw[hd]
   obtain⟨hu,_⟩:=(c.b.D ht).I hd;have row:=c.b.D bH;obtain⟨ad,cap,hx,hc,cL⟩:=hx;have hh':a.eval hi=.int k n':=hh;have hm':a.eval mx=.int k' n':=hm;have im:P.elem t=e:=by simp[Program.elem,hu]
   have o8:∀code,(Instr.sliceBound (.int k' n') cap code).run P w=.ok n'.toNat w:=λcode=>En (P:=P) w k' n' cap code h3 ab;have eT:∀code,(Instr.sliceBound (.int k n') n'.toNat code).run P w=.ok n'.toNat w:=λcode=>En (P:=P) w k n' n'.toNat code h3 ab;refine⟨_,sliced ad 0 n'.toNat n'.toNat (E.a e).a,h2.symm,?_,?_⟩
   ·simp only[execOp,ho,Bv,jt,hh',hm'];rw[eh,XK (P:=P) w t _ _ _ _ (by rw[im];exact hu),hx];simp[Instr.slice,dR hu,Instr.sliceBounds,o8,eT,row.D,sliced]
   ·have hlen:(vs.take n'.toNat).length=n'.toNat:=by simp;omega
    have tF:(vs.take n'.toNat)=[]\/∃b off,ad=some ⟨b,off,none⟩/\b<w.heap.size/\¬aY Z h β b/\bN E.a w (aY Z h β) (vs.take n'.toNat) e b off:=by
     rcases cL with cL | ⟨b,off,h6,hb,hO,hs⟩
     ·exact .inl (by rw[cL];simp)
     ·by_cases EH:vs=[]
      ·exact .inl (by rw[EH];simp)
      ·have BF:t'=e:=by
        rcases Bool.or_eq_true_iff.1 iq with h7 |h7
        ·exact aV h7
        ·exact absurd (by simpa using h7) EH
       subst BF;have:=bN.I vs 0 n'.toNat hs;simp only[oc,Em,lW]at this;exact .inr ⟨b,off,h6,hb,hO,this⟩
    show ax _ _ _ (.O e (vs.take n'.toNat)) _ _;rcases tF with h6 | ⟨b,off,h6,hb,hO,hs⟩
    ·have EJ:n'.toNat=0:=by rw[<-hlen,h6];rfl
     rw[EJ];exact⟨ad,by simp[sliced],.inl aB⟩
    ·by_cases EJ:n'.toNat=0
     ·rw[EJ];exact⟨ad,by simp[sliced],.inl aB⟩
     ·refine⟨some ⟨b,off,none⟩,by rw[hlen,h6];unfold sliced;rw[if_neg EJ];simp[i_],.inr ⟨b,off,rfl,hb,hO,hs⟩⟩
  ·simp[af.D]at he
 ·simp[af.D]at he
end
section
variable{E:bD}{P:Program}{Z:Nat->Prop}{h view:Nat->aj}{β:Nat->bd}{w:World}{s:Nat->aa}{a:Act}{fr:Nat}{o:Oper}{r:di}
def jh{d:mK}(hd:ty.c=d)(bL:d≠ .j):ty.D=true:=by unfold bz.D;rw[hd];cases d<;>first |rfl |exact absurd rfl bL
def Fs(h:(P.info? t).isSome=true)(w:World):(sizeOf t).run P w=.ok (P.cellsOf t) w:=by
 cases hi:P.info? t with
 |none=>rw[hi]at h;cases h
 |some i=>simp[sizeOf,typeInfo,hi,Program.cellsOf]
def aam(c:ed E P Z h view β w s a){x:Operand}{f:Nat}(ho:o.op=.fieldAddr t x f)(he:(cj E view s fr o).D=some r):fM E P Z h β w a o r:=by
 simp only[cj,ho]at he;have hx:=c.D x;split at he
 ·rename_i gs hd;have row:=c.b.D (jh hd aB);obtain⟨fs,hu,rfl,_,rT,_⟩:=row.zV hd;have fin:∀(off n:Nat)(ag:Bool)(b k:Nat)(v:aa),(fs.toList.map λf=>(f.offset,P.cellsOf f.type,zU P f.type))[f]? =some (off,n,ag)->a.eval x=.pointer (some ⟨b,k,none⟩)->r=.a v []->ax E.a w (aY Z h β) v (bW E.a h β) (.pointer (some ⟨b,k+off,none⟩))->fM E P Z h β w a o r:=by
   intro off n ag b k v hf hv hr eo;rw[fX]at hf;cases hq:fs.toList[f]? with
   |none=>rw[hq]at hf;cases hf
   |some fl=>
    rw[hq]at hf;simp only[jt,Option.some.injEq,Prod.mk.injEq]at hf;obtain⟨rfl,rfl,rfl⟩:=hf;have hq':fs[f]? =some fl:=by simpa using hq
    obtain⟨h1,h2,h3⟩:=rT fl (eg hq);refine⟨v,_,hr,?_,eo⟩;simp[execOp,ho,hv,Instr.fieldAt,dR hu,hq',Instr.sureAddr,fieldPlace,Fs h1,h3,i_]
  split at he
  ·rename_i off n ag cs hf hv;simp only[af.D,Option.some.injEq]at he;rw[hv]at hx;obtain⟨b,k,l,hx,h1,h2,h3,h4⟩:=hx;exact fin off n ag b k _ hf hx he.symm ⟨b,k+off,l.drop off,rfl,h1,h2,h3.D off,h4.V off⟩
  ·rename_i off n ag i j hf hv;simp only[af.D,Option.some.injEq]at he;rw[hv]at hx;obtain⟨h1,hx⟩:=hx;exact fin off n ag _ j _ hf hx he.symm ⟨h1,rfl⟩
  ·rename_i off n ag i g k j hf hv;simp only[af.D,Option.some.injEq]at he;rw[hv]at hx;obtain⟨ro,g',t',vs,hi,hg,⟨pb,po,hp⟩,h2⟩:=hx;refine fin off n ag pb po _ hf hp he.symm ⟨ro,g',t',vs,hi,hg,⟨_,_,rfl⟩,λl3=> ?_⟩;obtain⟨h3,h4⟩:=h2 l3;rw[hp]at h4;simp only[Value.pointer.injEq,Option.some.injEq,Addr.mk.injEq,tv]at h4;obtain⟨rfl,rfl⟩:=h4;exact⟨h3,by rw[qI,qI]⟩
  ·simp[af.D]at he
 ·simp[af.D]at he
def alX(c:ed E P Z h view β w s a){x y:Operand}(ho:o.op=.index t x y)(he:(cj E view s fr o).D=some r):fM E P Z h β w a o r:=by
 simp only[cj,ho]at he;have hx:=c.D x;have hy:=c.D y;split at he
 ·rename_i b k n hd hb hn;obtain⟨hu,_⟩:=(c.b.D (jh hd aB)).Cu hd;rw[hb]at hx;rw[hn]at hy;obtain⟨sb,hx,nk⟩:=hx;have hy':a.eval y=.int k n:=hy;obtain⟨h1,h2⟩:=aO he;simp only[au,bC]at h1;simp only[af.D,Option.some.injEq]at h2;have bE:sb.size=b.length:=by rw[<-nk];rfl
  have cC:n.toNat<sb.size:=ab;refine⟨_,.int .u8 (sb[n.toNat]'cC).toNat,h2.symm,?_,?_⟩
  ·simp only[execOp,ho,hx,hy'];rw[eh,run_index_string (P:=P) w t sb k n hu,dif_pos ⟨h1.1,ab⟩];rfl
  ·show _=_;congr 2
   have:b.getD n.toNat 0=sb[n.toNat]'cC:=by subst nk;rw[dD,cV (by simpa using cC)];rfl
   rw[this]
 ·rename_i m e cs k n hd hb hn;rw[hb]at hx;rw[hn]at hy;obtain⟨hu,_⟩:=(c.b.D (jh hd aB)).Je hd;have hy':a.eval y=.int k n:=hy;obtain⟨arr,hx,hl⟩:=hx;split at he
  ·rename_i hq;rw[au]at hq;have hle:=ft hq.2;have row:=c.b.D hq.1;obtain⟨h1,h2⟩:=aO he;simp only[au,bC]at h1;simp only[af.D,Option.some.injEq]at h2;have aMV:n.toNat<m:=ab;have bE:=row.m;have pP:n.toNat*(E.a e).a+(E.a e).a<=cs.length:=by have:(n.toNat+1)*(E.a e).a<=m*(E.a e).a:=Eo _ ab;rw[tu,Nat.one_mul]at this;omega
   have EI:=hl.I;have pQ:=(hl.V (n.toNat*(E.a e).a)).so (E.a e).a;have bm:(Instr.index t (.agg arr) (.int k n)).run P w=(part e arr (n.toNat*(E.a e).a)).run P w:=by simp[Instr.index,asIntOf,dR hu,h1.1,h1.2,row.D]
   cases np:(E.a e).b with
   |true=>
    rw[np]at h2;refine⟨_,.agg (arr.extract (n.toNat*(E.a e).a) (n.toNat*(E.a e).a+(E.a e).a)),h2.symm,?_,⟨_,rfl,?_⟩⟩
    ·simp only[execOp,ho,hx,hy'];rw[eh,bm];simp[part,row.Ct,np,row.D]
    ·have:(arr.extract (n.toNat*(E.a e).a) (n.toNat*(E.a e).a+(E.a e).a)).toList=(arr.toList.drop (n.toNat*(E.a e).a)).take (E.a e).a:=by rw[XJ];simp
     rw[this];exact pQ
   |false=>
    rw[np]at h2;cases fE:(cs.drop (n.toNat*(E.a e).a)).take (E.a e).a with
    |nil=>have:=dh List.length fE;simp at this;omega
    |cons u us=>
     rw[fE]at pQ h2;obtain⟨v,l,Nr,hr,_⟩:=pQ;refine⟨_,v,h2.symm,?_,hr⟩;have Ns:arr[n.toNat*(E.a e).a]? =some v:=by have h7:=dh (λl=>l[0]?) Nr;simp only[rP,xf,M0]at h7;rw[if_pos bE,lW]at h7;simpa using h7
     simp only[execOp,ho,hx,hy'];rw[eh,bm];simp[part,row.Ct,np,Ns]
  ·simp[af.D]at he
 ·simp[af.D]at he
def alY(c:ed E P Z h view β w s a){x:Operand}{f:Nat}(ho:o.op=.field t x f)(he:(cj E view s fr o).D=some r):fM E P Z h β w a o r:=by
 simp only[cj,ho]at he;have hx:=c.D x;split at he
 ·rename_i gs hd;have row:=c.b.D (jh hd aB);obtain⟨fs,hu,rfl,_,rT,_⟩:=row.zV hd;split at he
  ·rename_i off n ag cs hf hv;split at he
   ·rename_i hle;simp only[af.D,Option.some.injEq]at he;rw[hv]at hx;obtain⟨arr,hx,hl⟩:=hx;rw[fX]at hf;cases hq:fs.toList[f]? with
    |none=>rw[hq]at hf;cases hf
    |some fl=>
     rw[hq]at hf;simp only[jt,Option.some.injEq,Prod.mk.injEq]at hf;obtain⟨rfl,rfl,rfl⟩:=hf;have hq':fs[f]? =some fl:=by simpa using hq
     obtain⟨h1,h2,h3⟩:=rT fl (eg hq);have aJZ:fl.offset+P.cellsOf fl.type<=cs.length:=ft hle;have EI:=hl.I;have rS:(isAgg fl.type).run P w=.ok (zU P fl.type) w:=by
      cases zu:P.underlying fl.type with
      |none=>rw[zu]at h2;cases h2
      |some d=>cases d<;>simp[isAgg,dR zu,zU,zu]
     have pQ:=(hl.V fl.offset).so (P.cellsOf fl.type);cases hb:zU P fl.type with
     |true=>
      rw[hb]at rS he;refine⟨_,.agg (arr.extract fl.offset (fl.offset+P.cellsOf fl.type)),he.symm,?_,⟨_,rfl,?_⟩⟩
      ·simp[execOp,ho,hx,Instr.field,dR hu,hq',asAgg,part,rS,Fs h1]
      ·have:(arr.extract fl.offset (fl.offset+P.cellsOf fl.type)).toList=(arr.toList.drop fl.offset).take (P.cellsOf fl.type):=by rw[XJ];simp
       rw[this];exact pQ
     |false=>
      rw[hb]at rS he;cases fE:(cs.drop fl.offset).take (P.cellsOf fl.type)with
      |nil=>have:=dh List.length fE;simp at this;omega
      |cons u us=>
       rw[fE]at pQ he;obtain⟨y,rest,hy,BH,_⟩:=pQ;have iK:arr[fl.offset]? =some y:=by
        have:((arr.toList.drop fl.offset).take (P.cellsOf fl.type))[0]? =some y:=by rw[hy];rfl
        rw[rP]at this;split at this
        ·simpa using this
        ·cases this
       refine⟨_,y,he.symm,?_,BH⟩;simp[execOp,ho,hx,Instr.field,dR hu,hq',asAgg,part,rS,iK]
   ·simp[af.D]at he
  ·simp[af.D]at he
 ·simp[af.D]at he
end
section
variable{E:bD}{P:Program}{Z:Nat->Prop}{h view:Nat->aj}{β:Nat->bd}{w:World}{s:Nat->aa}{a:Act}{fr:Nat}{o:Oper}{r:di}
def Cy(hu:P.underlying t=some (.slice e))(row:dn P e ty)(ad:Addr)(len cap:Nat)(k:IntKind)(n:Int)(h0:0<=n)(h1:n<len):
  (Instr.indexAt t (.slice (some ad) len cap) (.int k n)).run P w=.ok (.pointer (some (ad.add (n.toNat*ty.a)))) w:=by
 simp[Instr.indexAt,asIntOf,dR hu,h0,h1,row.D]
def alZ(c:ed E P Z h view β w s a){x y:Operand}(ho:o.op=.indexAddr t x y)(he:(cj E view s fr o).D=some r):fM E P Z h β w a o r:=by
 simp only[cj,ho]at he;have hx:=c.D x;have hy:=c.D y;split at he
 ·rename_i k n hn;rw[hn]at hy;have hy':a.eval y=.int k n:=hy;split at he
  ·rename_i e hd;obtain⟨hu,_⟩:=(c.b.D (jh hd aB)).I hd;split at he
   ·rename_i t' vs hv;rw[hv]at hx;split at he
    ·rename_i iq;rw[au]at iq;have:=aV iq.1;subst this;have row:=c.b.D iq.2;obtain⟨h1,h2⟩:=aO he;simp only[au,bC]at h1;simp only[af.D,Option.some.injEq]at h2;obtain⟨ad,cap,hx,_,cL | ⟨b,off,rfl,hb,hO,hs⟩⟩:=hx
     ·subst cL;simp at h1;omega
     ·have cC:n.toNat<vs.length:=ab;have j2:vs[n.toNat]? =some vs[n.toNat]:=cV cC;obtain⟨f1,f2,cs,h6,h7,h8⟩:=bN.U hs j2;have om:vs.getD n.toNat .m=vs[n.toNat]:=by rw[dD,j2];rfl
      rw[om,f2]at h2;refine⟨_,.pointer (some ⟨b,off+n.toNat*(E.a t').a,none⟩),h2.symm,?_,⟨_,_,cs,rfl,hb,hO,h7,Cw row f1 h6 h8⟩⟩;simp[execOp,ho,hx,hy',Cy hu row _ _ _ k n h1.1 h1.2,i_]
    ·simp[af.D]at he
   ·rename_i t' i g m hv;rw[hv]at hx;obtain⟨h1,h2⟩:=aO he;simp only[au,bC]at h1;simp only[af.D,Option.some.injEq]at h2;obtain⟨⟨⟨iq,bH⟩,h3⟩,h4⟩:=h1;have:=aV iq;subst this;have row:=c.b.D bH;obtain⟨ro,g',tt,vs,hi,hg,⟨ad,cap,hx,hc,BG⟩,cL⟩:=hx;obtain⟨b,off,rfl⟩:=BG ab;refine⟨_,.pointer (some ⟨b,off+n.toNat*(E.a t').a,none⟩),h2.symm,?_,⟨ro,g',tt,vs,hi,hg,⟨_,_,rfl⟩,λl3=> ?_⟩⟩
    ·simp[execOp,ho,hx,hy',Cy hu row _ _ _ k n h3 h4,i_]
    ·obtain⟨rfl,rfl,iJ⟩:=cL l3;rw[hx]at iJ;simp only[Value.slice.injEq,true_and,bd.D]at iJ;obtain⟨iJ,rfl⟩:=iJ;split at iJ
     ·cases iJ
     ·simp only[Option.some.injEq,Addr.mk.injEq,tv]at iJ;obtain⟨rfl,rfl⟩:=iJ;exact⟨ab,aB⟩
   ·rename_i t' i g o2 m hv;rw[hv]at hx;obtain⟨h1,h2⟩:=aO he;simp only[au,bC]at h1;simp only[af.D,Option.some.injEq]at h2;obtain⟨⟨⟨iq,bH⟩,h3⟩,h4⟩:=h1;have:=aV iq;subst this;have row:=c.b.D bH;obtain⟨ro,g',tt,vs,hi,hg,⟨ad,cap,hx,hc,BG⟩,cL⟩:=hx;obtain⟨b,off,rfl⟩:=BG ab;refine⟨_,.pointer (some ⟨b,off+n.toNat*(E.a t').a,none⟩),h2.symm,?_,⟨ro,g',tt,vs,hi,hg,⟨_,_,rfl⟩,λl3=> ?_⟩⟩
    ·simp[execOp,ho,hx,hy',Cy hu row _ _ _ k n h3 h4,i_]
    ·obtain⟨rfl,hle,ad2,iJ,X9⟩:=cL l3;rw[hx]at iJ;simp only[Value.slice.injEq,true_and]at iJ;obtain⟨rfl,rfl⟩:=iJ;have:=X9 ab;simp only[Option.some.injEq,Addr.mk.injEq,tv]at this;obtain⟨rfl,rfl⟩:=this;exact⟨ab,by simp[tu]⟩
   ·rename_i t' i m hv;rw[hv]at hx;obtain⟨h1,h2⟩:=aO he;simp only[au,bC]at h1;simp only[af.D,Option.some.injEq]at h2;obtain⟨⟨⟨iq,bH⟩,h3⟩,h4⟩:=h1;have:=aV iq;subst this;have row:=c.b.D bH;obtain⟨hb,cap,hc,hx⟩:=hx;refine⟨_,.pointer (some ⟨(β i).a,0+n.toNat*(E.a t').a,none⟩),h2.symm,?_,⟨hb,by rw[gF]⟩⟩;simp[execOp,ho,hx,hy',Cy hu row _ _ _ k n h3 h4,i_]
   ·simp[af.D]at he
  ·rename_i m e hd;obtain⟨hu,_,zv,aJ3,aJ4⟩:=(c.b.D (jh hd aB)).Je hd;obtain⟨h1,h2⟩:=aO he;simp only[au,bC]at h1;obtain⟨⟨bH,h3⟩,h4⟩:=h1;have aJ5:=(c.b.D bH).alF;have fin:∀(b off:Nat)(v:aa),a.eval x=.pointer (some ⟨b,off,none⟩)->r=.a v []->ax E.a w (aY Z h β) v (bW E.a h β) (.pointer (some ⟨b,off+n.toNat*(E.a e).a,none⟩))->fM E P Z h β w a o r:=by intro b off v hv hr eo;refine⟨v,_,hr,?_,eo⟩;rw[<-aJ5];simp[execOp,ho,hv,hy',Instr.indexAt,asIntOf,dR hu,Instr.sureAddr,h3,h4,Fs aJ3,i_]
   split at h2
   ·rename_i cs hv;simp only[af.D,Option.some.injEq]at h2;rw[hv]at hx;obtain⟨b,off,l,hx,q1,q2,q3,q4⟩:=hx;exact fin b off _ hx h2.symm ⟨b,_,_,rfl,q1,q2,q3.D _,q4.V _⟩
   ·rename_i i j hv;simp only[af.D,Option.some.injEq]at h2;rw[hv]at hx;obtain⟨q1,hx⟩:=hx;exact fin _ j _ hx h2.symm ⟨q1,rfl⟩
   ·rename_i i g k2 j hv;simp only[af.D,Option.some.injEq]at h2;rw[hv]at hx;obtain⟨ro,g',t',vs,hi,hg,⟨pb,po,hp⟩,q2⟩:=hx;refine fin pb po _ hp h2.symm ⟨ro,g',t',vs,hi,hg,⟨_,_,rfl⟩,λl3=> ?_⟩;obtain⟨q3,q4⟩:=q2 l3;rw[hp]at q4;simp only[Value.pointer.injEq,Option.some.injEq,Addr.mk.injEq,tv]at q4;obtain⟨rfl,rfl⟩:=q4;exact⟨q3,by rw[qI,qI]⟩
   ·simp[af.D]at h2
  ·simp[af.D]at he
 ·simp[af.D]at he
def al0(c:ed E P Z h view β w s a){src dst:TypeId}{x:Operand}(ho:o.op=.convert src dst x)(he:(cj E view s fr o).D=some r):fM E P Z h β w a o r:=by
 simp only[cj,ho]at he;have hx:=c.D x;split at he
 ·rename_i k k' n hd hv;split at he
  ·rename_i hs;simp only[af.D,Option.some.injEq]at he;rw[hv]at hx;have hx':a.eval x=.int k' n:=hx;have h1:=(c.b.D hs).Z1;obtain⟨h2,_⟩:=(c.b.D (jh hd aB)).OE hd;exact⟨_,_,he.symm,by obtain⟨d,zw⟩:=Option.isSome_iff_exists.1 h1;simp[execOp,ho,hx',convert,dR zw,dR h2,Conv.intToInt],rfl⟩
  ·simp[af.D]at he
 ·simp[af.D]at he
end
def OR(v:List Value):∀(off k:Nat)(cells:Array Value),off+k+v.length<=cells.size->
  ((v.zipIdx k).foldl (λcs (x:Value×Nat)=>cs.setIfInBounds (off+x.2) x.1) cells).toList=cells.toList.take (off+k)++v++cells.toList.drop (off+k+v.length):=by
 induction v with
 |nil=>intro off k cells h;simp
 |cons x v ih=>
  intro off k cells h;simp only[List.zipIdx_cons,List.foldl_cons];rw[ih off (k+1) _ (by simp at h⊢;omega)];simp only[eM]at h;have h1:off+k<cells.toList.length:=by simp;omega
  simp only[Array.toList_setIfInBounds];rw[<-qI,List.take_succ_eq_append_getElem (by simpa using h1)];rw[XL (bj _),List.getElem_set_self,List.drop_set_of_lt ab];simp only[jb,List.singleton_append,eM];congr 3
  omega
section
variable{E:bD}{P:Program}{Z:Nat->Prop}{h view:Nat->aj}{β:Nat->bd}{w:World}{s:Nat->aa}{a:Act}{fr:Nat}{o:Oper}{r:di}
def al1(hr:ax T w O v R x)(hv:v.ZO=true)(hR:∀r y,R r y->y.oneCell'=true):aF T w O v.V R x.cells.toList:=by refine hr.Fp ?_ hR;cases v<;>first |exact .inl rfl |exact .inr hv
def Cz(r:aa)(y:Value)(hr:bW T h β r y):y.oneCell'=true:=by
 cases r with
 |e i j=>rw[hr.2];rfl
 |y t i g n=>obtain⟨_,_,_,_,_,_,⟨_,_,rfl,_⟩,_⟩:=hr;rfl
 |K t i g o n=>obtain⟨_,_,_,_,_,_,⟨_,_,rfl,_⟩,_⟩:=hr;rfl
 |H i g k j=>obtain⟨_,_,_,_,_,_,⟨_,_,rfl⟩,_⟩:=hr;rfl
 |F i=>rw[hr.2];rfl
 |G t i n=>obtain⟨_,_,_,rfl⟩:=hr;rfl
 |L i=>rw[hr.2];rfl
 |_=>exact hr.elim
def Jk(c:ed E P Z h view β w s a){fs:List (Nat×Nat×Bool)}{place:Nat->Option (Nat×Nat)}(hp:∀i off n ag,fs[i]? =some (off,n,ag)->place i=some (off,n)):
  ∀(parts:List (Nat×Operand))(cs cs':List aa)(cells:Array Value),aF E.a w (aY Z h β) cs (bW E.a h β) cells.toList->p9 fs (aN E s) parts cs=some cs'->
  ∃EK,Instr.fill place cells (parts.map λx=>(x.1,a.eval x.2))=some EK/\aF E.a w (aY Z h β) cs' (bW E.a h β) EK.toList
 | [],cs,cs',cells,hr,hf=>by simp[p9]at hf;subst hf;exact⟨cells,rfl,hr⟩
 | (i,x)::parts,cs,cs',cells,hr,hf=>by
  unfold p9 at hf;split at hf
  ·rename_i off n ag hi;split at hf
   ·rename_i hc;simp only[au]at hc;obtain⟨⟨fw,dw⟩,j3⟩:=hc;have h1:=aV dw;have h2:=ft j3;have hx:=al1 (c.D x) fw Cz;have hl:=hx.I;have gS:=hr.I;have bE:(a.eval x).cells.size=n:=by rw[<-h1,<-hl];simp
    have fE:cells.size=cs.length:=by rw[<-gS];simp
    simp only[lX,Instr.fill,hp i off n ag hi];have HY:¬((decide ((a.eval x).cells.size≠n) ||decide (off+(a.eval x).cells.size>cells.size))=true):=by rw[bE,fE];simp;omega
    rw[if_neg HY];have jd:=OR (a.eval x).cells.toList off 0 cells (by rw[Bw,bE,fE];omega);have heq:((a.eval x).cells.zipIdx.foldl (λcs (x:Value×Nat)=>cs.setIfInBounds (off+x.2) x.1) cells).toList=cells.toList.take off++(a.eval x).cells.toList++cells.toList.drop (off+n):=by rw[<-HJ,XM,jd];simp[bE]
    refine Jk c hp parts _ cs' _ ?_ hf;rw[heq];exact((hr.so off).U hx).U (hr.V _)
   ·cases hf
  ·cases hf
def al2(c:ed E P Z h view β w s a){parts:Array (Nat×Operand)}(ho:o.op=.build t parts)(he:(cj E view s fr o).D=some r):fM E P Z h β w a o r:=by
 simp only[cj,ho]at he;split at he
 ·rename_i gs hd;have row:=c.b.D (jh hd aB);obtain⟨fs,hu,rfl,_,rT,_⟩:=row.zV hd;obtain⟨i,z,hi,h1,h2,hz,h3,_⟩:=row.j;cases hq:p9 (fs.toList.map λf=>(f.offset,P.cellsOf f.type,zU P f.type)) (aN E s) parts.toList (mc (E.a t)).V with
  |none=>rw[hq]at he;simp[kC,af.D]at he
  |some cs=>
   rw[hq]at he;simp only[kC,af.D,Option.some.injEq]at he;have gT:∀(l:List Field),(∀f∈l,(P.info? f.type).isSome=true)->l.mapM (λf=>(P.info? f.type).map λi=>(f.offset,i.size))=some (l.map λf=>(f.offset,P.cellsOf f.type)):=by
    intro l;induction l with
    |nil=>intro _;rfl
    |cons f l ih=>
     intro hl;have h5:=hl f aB;cases aju:P.info? f.type with
     |none=>rw[aju]at h5;cases h5
     |some i5=>simp[List.mapM_cons,aju,ih (λg hg=>hl g (by simp[hg])),Program.cellsOf]
   obtain⟨z',pR,qP,X_,aJ6⟩:=row.Cv (T:=E.a) (w:=w) (O:=aY Z h β) w (bW E.a h β);have HZ:z'=z:=by
    have:(zeroValue t).run P w=.ok z w:=by simp[zeroValue,typeInfo,hi,hz]
    rw[this]at pR;simpa using pR.symm
   subst HZ;obtain⟨cells,fw,dw⟩:=Jk c (place:=λx=>(fs.toList.map λf=>(f.offset,P.cellsOf f.type))[x]?) (λi off n ag hh=>by
    rw[fX]at hh⊢;cases hx:fs.toList[i]? with
    |none=>rw[hx]at hh;cases hh
    |some f=>rw[hx]at hh;simp at hh⊢;exact⟨hh.1,hh.2.1⟩) parts.toList _ _ z'.cells X_ hq
   refine⟨_,.agg cells,he.symm,?_,⟨_,rfl,dw⟩⟩;have hb:=run_build (P:=P) w t (parts.map λ(i,x)=>(i,a.eval x)) cells (by
    unfold Program.built;simp only[hi,hu,hz,gT fs.toList (λf hf=>(rT f hf).1)];simpa using fw)
   simp[execOp,ho,hb]
 ·rename_i n e hd;have row:=c.b.D (jh hd aB);obtain⟨hu,_⟩:=row.Je hd;obtain⟨i,z,hi,h1,h2,hz,h3,_⟩:=row.j;cases bH:(E.a e).D with
  |false=>rw[bH]at he;simp[kC,af.D]at he
  |true=>
   rw[bH]at he;obtain⟨ie,ze,aJ7,hs,_⟩:=(c.b.D bH).j;cases hq:p9 ((List.range n).map λi=>(i*(E.a e).a,(E.a e).a,false)) (aN E s) parts.toList (mc (E.a t)).V with
   |none=>rw[hq]at he;simp[kC,af.D]at he
   |some cs=>
    rw[hq]at he;simp only[kC,af.D,Option.some.injEq]at he;obtain⟨z',pR,qP,X_,aJ6⟩:=row.Cv (T:=E.a) (w:=w) (O:=aY Z h β) w (bW E.a h β);have HZ:z'=z:=by
     have:(zeroValue t).run P w=.ok z w:=by simp[zeroValue,typeInfo,hi,hz]
     rw[this]at pR;simpa using pR.symm
    subst HZ;obtain⟨cells,fw,dw⟩:=Jk c (place:=λi=>some (i*ie.size,ie.size)) (λi off n' ag hh=>by
     rw[fX]at hh;cases hx:(List.range n)[i]? with
     |none=>rw[hx]at hh;cases hh
     |some k=>
      rw[hx]at hh;have hk:k=i:=by obtain⟨h5,h6⟩:=List.getElem?_eq_some_iff.1 hx;rw[List.getElem_range]at h6;exact h6.symm
      simp at hh;rw[hs];simp[<-hh.1,<-hh.2.1,hk]) parts.toList _ _ z'.cells X_ hq
    refine⟨_,.agg cells,he.symm,?_,⟨_,rfl,dw⟩⟩;have hb:=run_build (P:=P) w t (parts.map λ(i,x)=>(i,a.eval x)) cells (by
     unfold Program.built;simp only[hi,hu,hz,aJ7];simpa using fw)
    simp[execOp,ho,hb]
 ·simp[af.D]at he
end
def q8(f:Value->Bool):List MapEntry->Nat->Option (Nat×Value)
 | [],_=>none
 |e::es,i=>if f e.key then some (i,e.val)else q8 f es (i+1)
def aan{d:TypeDesc}{x:Value}{f:Value->Bool}:∀(es:List MapEntry)(i:Nat),(∀e∈es,Instr.sameNow d x e.key=some (f e.key))->Instr.findNow d x es i=some (q8 f es i)
 | [],i,_=>rfl
 |e::es,i,h=>by
  unfold Instr.findNow q8;rw[h e aB];cases f e.key
  ·exact aan es (i+1) (λe' h'=>h e' (by simp[h']))
  ·rfl
section
variable{P:Program}{w:World}{T:TypeId->bz}{O:Nat->Prop}{R R':aa->Value->Prop}
def aao{kt:TypeId}{x:Value}{f:Value->Bool}:∀(es:List MapEntry)(i:Nat),(∀e∈es,(Op.equal kt x e.key).run P w=.ok (f e.key) w)->(Instr.findAsking kt x es i).run P w=.ok (q8 f es i) w
 | [],i,_=>rfl
 |e::es,i,h=>by
  unfold Instr.findAsking q8;simp only[eh,h e aB,fD];cases f e.key
  ·simpa using aao es (i+1) (λe' h'=>h e' (by simp[h']))
  ·rfl
def Jl(row:dn P kt ty)(hk:p8 ty=true)(bH:ty.D=true):
  (∃k,qb P kt=some k/\ty.d=[k]/\ty.b=false)\/(∃fs,P.underlying kt=some (.struct fs)/\ty.b=true/\sq P 0 fs.toList=some ty.d/\P.stoodInHeld kt=false):=by
 unfold p8 at hk;rw[au]at hk;cases ha:ty.b with
 |true=>
  simp only[ha]at hk;right;cases hd:ty.c with
  |f gs=>obtain⟨fs,hu,_,_,_,hq⟩:=row.zV hd;obtain⟨h1,h2,_⟩:=hq hk.2;exact⟨fs,hu,rfl,h1,h2⟩
  |d n e=>
   have:=row.g;unfold mO at this;split at this<;>rename_i hu hq<;>rw[hd]at hq<;>simp at hq
   ·simp[hk.2]at this
   ·cases this
  |a e=>rw[(row.I hd).2]at ha;cases ha
  |b=>rw[(row.Cu hd).2.1]at ha;cases ha
  |c k=>rw[(row.OE hd).2.1]at ha;cases ha
  |i=>rw[(row.OF hd).2.1]at ha;cases ha
  |j=>unfold bz.D at bH;rw[hd]at bH;cases bH
  |_=>have:=row.g;unfold mO at this;split at this<;>rename_i hu hq<;>rw[hd]at hq<;>simp at hq<;>simp[ha]at this
 |false=>
  left;obtain⟨_,k,j2⟩:=row.V ha;simp only[ha]at hk;have gU:=hk.2;cases hd:ty.c with
  |b=>obtain⟨h1,_,h3⟩:=row.Cu hd;rw[j2]at h3;exact⟨k,by simp[qb,h1];simpa using h3.symm,j2,rfl⟩
  |c k'=>obtain⟨h1,_,h3⟩:=row.OE hd;rw[j2]at h3;exact⟨k,by simp[qb,h1];simpa using h3.symm,j2,rfl⟩
  |i=>obtain⟨h1,_,h3⟩:=row.OF hd;rw[j2]at h3;exact⟨k,by simp[qb,h1];simpa using h3.symm,j2,rfl⟩
  |_=>rw[hd]at gU;cases gU
def Ft(hp:k.D=true)(hf:dX k v=true):lg k v=v:=by cases k<;>simp[bY.D]at hp<;>cases v<;>simp[dX]at hf<;>first |rfl | (subst hf;rfl)
def Jm:∀{ks:List bY}{cs:List aa},ks.all bY.D=true->bT ks cs=true->gJ ks 0 (.u cs)=cs:=by
 intro ks cs hp hf;have hlen:cs.length=ks.length:=by
  have:∀(ks:List bY)(l:List aa),bT ks l=true->l.length=ks.length:=by
   intro ks;induction ks with
   |nil=>intro l h;cases l<;>simp[bT]at h⊢
   |cons k ks ih=>intro l h;cases l<;>simp[bT]at h⊢;exact ih _ h.2
  exact this ks cs hf
 refine Jg hlen (λi=>by simp[aa.D,aa.V]) (λi k c h1 h2=> ?_);have aJ8:k.D=true:=by rw[dS]at hp;exact hp k (eg h1)
 have aJ9:∀(ks:List bY)(cs:List aa)(i:Nat)(k:bY)(c:aa),bT ks cs=true->ks[i]? =some k->cs[i]? =some c->dX k c=true:=by
  intro ks;induction ks with
  |nil=>intro cs i k c _ h;simp at h
  |cons a ks ih=>
   intro cs i k c hf h1 h2;cases cs with
   |nil=>simp at h2
   |cons b cs=>
    rw[bT,au]at hf;cases i with
    |zero=>simp at h1 h2;subst h1 h2;exact hf.1
    |succ i=>exact ih cs i k c hf.2 (by simpa using h1) (by simpa using h2)
 exact Ft aJ8 (aJ9 ks cs i k c hf h1 h2)
def OS{b:aa}(hp:k.D=true)(fa:dX k a=true)(fb:dX k b=true):∃r,nC a b=some r:=by
 cases k<;>simp[bY.D]at hp<;>cases a<;>simp[dX]at fa<;>cases b<;>simp[dX]at fb
 ·exact⟨_,rfl⟩
 ·subst fa fb;rename_i n m;exact⟨n==m,by simp[nC]⟩
 ·exact⟨_,rfl⟩
def OT:∀{ks:List bY}{a b:List aa},ks.all bY.D=true->bT ks a=true->bT ks b=true->∃r,p7 a b=some r
 | [],[],[],_,_,_=>⟨_,rfl⟩
 | [],_::_,_,_,h,_=>by simp[bT]at h
 | [],[],_::_,_,_,h=>by simp[bT]at h
 |_::_,[],_,_,h,_=>by simp[bT]at h
 |_::_,_::_,[],_,_,h=>by simp[bT]at h
 |k::ks,x::a,y::b,hp,fa,fb=>by rw[bT,au]at fa fb;rw[ja,au]at hp;obtain⟨r1,h1⟩:=OS hp.1 fa.1 fb.1;obtain⟨r2,h2⟩:=OT hp.2 fa.2 fb.2;exact⟨r1 &&r2,by simp[p7,h1,h2]⟩
def al3(row:dn P kt ty)(hk:p8 ty=true)(bH:ty.D=true){b:aa}(fa:cA ty a=true)(fb:cA ty b=true)(ha:ax T w O a R x)(hb:ax T w O b R' y):
  (Op.equal kt x y).run P w=.ok (lF ty a b) w:=by
 have gT:ty.d.all bY.D=true:=by unfold p8 at hk;rw[au]at hk;exact hk.1
 rcases Jl row hk bH with⟨k,h1,h2,h3⟩ | ⟨fs,h1,h2,h3,h4⟩
 ·simp only[cA,h2,h3]at fa fb;rw[h2]at gT;have hp:k.D=true:=by simpa using gT
  obtain⟨r,hr⟩:=OS hp fa fb;have:lF ty a b=r:=by simp[lF,h2,h3,Ft hp fa,Ft hp fb,hr]
  rw[this];exact aaa (P:=P) (d:=9999) h1 fa fb ha hb hr
 ·cases a<;>simp[cA,h2]at fa;cases b<;>simp[cA,h2]at fb;rename_i ca cb;obtain⟨p,rfl,h5⟩:=ha;obtain⟨q,rfl,h6⟩:=hb;obtain⟨r,hr⟩:=OT gT fa fb;have:lF ty (.u ca) (.u cb)=r:=by simp[lF,h2,Jm gT fa,Jm gT fb,hr]
  rw[this];have xo:P.fieldsOf kt=fs:=by simp[Program.fieldsOf,h1]
  rw[Op.equal,Op.maxDepth,run_equalIn_struct w 9999 kt p q (by rw[xo];exact h1) h4,xo];exact OL (d:=9998) fs.toList 0 ty.d ca cb p.toList q.toList r h3 fa fb h5 h6 rfl rfl hr
def aap(h:qb P kt=some k)(e:Bool)(n:Nat):(Instr.checkKey e (n+1) kt x).run P w=.ok () w:=by
 unfold qb at h;split at h<;>simp at h
 all_goals (rename_i hu;simp[Instr.checkKey,dR hu])
def aaq{e:Bool}{n:Nat}{cs:Array Value}:∀(fs:List Field)(off:Nat)(ks:List bY),sq P off fs=some ks->off+ks.length<=cs.size->
  (forIn fs PUnit.unit (λf (_:PUnit)=>(if f.name≠ "_" then do
    Instr.checkKey e (n+1) f.type (<-part f.type cs f.offset)
    pure (ForInStep.yield PUnit.unit)else pure (ForInStep.yield PUnit.unit):Sem (ForInStep PUnit)))).run P w=.ok PUnit.unit w
 | [],_,_,_,_=>rfl
 |f::fs,off,ks,hb,hl=>by
  unfold sq at hb;split at hb
  ·rename_i k hk;split at hb
   ·rename_i hn;cases hq:sq P (off+1) fs with
    |none=>rw[hq]at hb;cases hb
    |some ks'=>
     rw[hq]at hb;simp at hb;subst hb;simp at hl;have ih:=aaq (e:=e) (n:=n) (cs:=cs) fs (off+1) ks' hq ab;have rS:(isAgg f.type).run P w=.ok false w:=by
      unfold qb at hk;split at hk<;>simp at hk
      all_goals (rename_i hu;simp[isAgg,dR hu])
     have X7:cs[off]? =some cs[off]:=ku ab;have HW:(part f.type cs f.offset).run P w=.ok cs[off] w:=by rw[hn.2];simp[part,rS,X7]
     simp only[List.forIn_cons,eh];rw[if_pos hn.1];simp only[eh,HW,fD,aap hk,ju];exact ih
   ·cases hb
  ·cases hb
def OU(row:dn P kt ty)(hk:p8 ty=true)(bH:ty.D=true)(fa:cA ty a=true)(ha:ax T w O a R x)(e:Bool):
  (Instr.checkKey e 10000 kt x).run P w=.ok () w:=by
 rcases Jl row hk bH with⟨k,h1,h2,h3⟩ | ⟨fs,h1,h2,h3,h4⟩
 ·exact aap h1 e 9999
 ·cases a<;>simp[cA,h2]at fa;rename_i ca;obtain⟨p,rfl,h5⟩:=ha;have hl:=h5.I;have hlen:ca.length=ty.d.length:=by
   have:∀(ks:List bY)(l:List aa),bT ks l=true->l.length=ks.length:=by
    intro ks;induction ks with
    |nil=>intro l h;cases l<;>simp[bT]at h⊢
    |cons k ks ih=>intro l h;cases l<;>simp[bT]at h⊢;exact ih _ h.2
   exact this _ _ fa
  have:=aaq (w:=w) (e:=e) (n:=9998) (cs:=p) fs.toList 0 ty.d h3 (by simp at hl;omega);show(Instr.checkKey e (9999+1) kt (.agg p)).run P w=_;unfold Instr.checkKey;simp only[eh,dR h1,fD];rw[<-Array.forIn_toList,this];rfl
def aar(a b:ByteArray):(a==b)=(a.data.toList==b.data.toList):=by rw[beq_toListBytes,Cx,Cx]
def OV(row:dn P kt ty)(hk:p8 ty=true)(bH:ty.D=true){k:aa}(fk:cA ty k=true)(hx:ax T w O k R x)
 {es:List MapEntry}{ks:List aa}(X':aF T w O ks R' (es.map (·.key)))(hf:∀k∈ks,cA ty k=true):
  ∃f:Value->Bool,(∀(n:Nat)(k':aa)(e:MapEntry),ks[n]? =some k'->es[n]? =some e->f e.key=lF ty k k')/\(Instr.findKey kt x es).run P w=.ok (q8 f es 0) w:=by
 classical
 let f:Value->Bool:=λy=>if h:∃b,(Op.equal kt x y).run P w=.ok b w then h.choose else false
 have lA:∀(n:Nat)(e:MapEntry),es[n]? =some e->∃k',ks[n]? =some k'/\ax T w O k' R' e.key:=by intro n e he;have hlen:=X'.I;simp at hlen;obtain⟨hn,_⟩:=List.getElem?_eq_some_iff.1 he;have hk':ks[n]? =some (ks[n]'ab):=cV ab;obtain⟨y,h1,h2⟩:=aF.vU n _ X' hk';rw[fX,he]at h1;simp at h1;subst h1;exact⟨_,hk',h2⟩
 have BI:∀(n:Nat)(k':aa)(e:MapEntry),ks[n]? =some k'->es[n]? =some e->(Op.equal kt x e.key).run P w=.ok (lF ty k k') w/\f e.key=lF ty k k':=by
  intro n k' e h1 h2;obtain⟨k2,h3,h4⟩:=lA n e h2;rw[h1]at h3;simp at h3;subst h3;have hr:=al3 row hk bH fk (hf _ (eg h1)) hx h4;refine⟨hr,?_⟩;have hex:∃b,(Op.equal kt x e.key).run P w=.ok b w:=⟨_,hr⟩
  have hc:=hex.choose_spec;show(if h:_ then _ else _)=_;rw[dif_pos hex];have h9:=hr.symm.trans hc;simp only[Result.ok.injEq,tv]at h9;exact h9.symm
 refine⟨f,λn k' e h1 h2=>(BI n k' e h1 h2).2,?_⟩;have il:∀e∈es,(Op.equal kt x e.key).run P w=.ok (f e.key) w:=by intro e he;obtain⟨n,hn⟩:=M1 he;obtain⟨k',h1,_⟩:=lA n e hn;obtain⟨h2,h3⟩:=BI n k' e h1 hn;rw[h3];exact h2
 unfold Instr.findKey;rcases Jl row hk bH with⟨kd,h1,h2,h3⟩ | ⟨fs,h1,h2,h3,h4⟩
 ·obtain⟨d,hu⟩:∃d,P.underlying kt=some d:=by unfold qb at h1;split at h1<;>first |exact⟨_,‹_›⟩ |cases h1
  have aJ_:∀e∈es,Instr.sameNow d x e.key=some (f e.key):=by
   intro e he;obtain⟨n,hn⟩:=M1 he;obtain⟨k',h5,h6⟩:=lA n e hn;obtain⟨_,h7⟩:=BI n k' e h5 hn;rw[h7];have fk':=hf _ (eg h5);simp only[cA,h2,h3]at fk fk';unfold qb at h1;rw[hu]at h1;split at h1<;>simp at h1
   all_goals subst h1
   all_goals rename_i hd
   all_goals simp only[Option.some.injEq]at hd
   all_goals subst hd
   ·cases k<;>simp[dX]at fk;cases k'<;>simp[dX]at fk';rw[show x=_ from hx,show e.key=_ from h6];simp[Instr.sameNow,lF,h2,h3,lg,aa.b_,nC]
   ·cases k<;>simp[dX]at fk;cases k'<;>simp[dX]at fk';subst fk fk';rw[show x=_ from hx,show e.key=_ from h6];simp[Instr.sameNow,lF,h2,h3,lg,aa.I,nC]
   ·cases k<;>simp[dX]at fk;cases k'<;>simp[dX]at fk';obtain⟨b1,rfl,h8⟩:=hx;obtain⟨b2,h9,h10⟩:=h6;rw[h9];simp[Instr.sameNow,lF,h2,h3,lg,aa.bJ,nC,aar,h8,h10]
  simp[dR hu,aan es 0 aJ_]
 ·cases es with
  |nil=>simp[dR h1,Instr.findNow,q8]
  |cons e es=>
   have:Instr.findNow (.struct fs) x (e::es) 0=none:=by
    have cL:∃p,x=.agg p:=by cases k<;>simp[cA,h2]at fk;obtain⟨p,rfl,_⟩:=hx;exact⟨p,rfl⟩
    obtain⟨p,rfl⟩:=cL;rfl
   simp only[eh,dR h1,fD,this];exact aao _ 0 il
def OW{ty:bz}{k:aa}{f:Value->Bool}:∀(es:List MapEntry)(ks vs:List aa)(i:Nat),
  aF T w O ks R' (es.map (·.key))->aF T w O vs R' (es.map (·.val))->
  (∀(n:Nat)(k':aa)(e:MapEntry),ks[n]? =some k'->es[n]? =some e->f e.key=lF ty k k')->
  (iN ty k ks vs=none/\q8 f es i=none/\∀v,fL ty k v ks vs=(ks++ [k],vs++ [v]))\/
  (∃(n:Nat)(e:MapEntry)(k' v':aa),iN ty k ks vs=some v'/\q8 f es i=some (i+n,e.val)/\es[n]? =some e/\ks[n]? =some k'/\vs[n]? =some v'/\lF ty k k'=true/\ax T w O v' R' e.val/\ax T w O k' R' e.key/\∀v,fL ty k v ks vs=(ks.set n k,vs.set n v))
 | [],ks,vs,i,hk,hv,_=>by
  cases ks with
  |cons=>have:=hk.I;simp at this
  |nil=>cases vs with
   |cons=>have:=hv.I;simp at this
   |nil=>exact .inl ⟨rfl,rfl,λ_=>rfl⟩
 |e::es,ks,vs,i,hk,hv,hf=>by
  cases ks with
  |nil=>have:=hk.I;simp at this
  |cons k' ks=>
   cases vs with
   |nil=>have:=hv.I;simp at this
   |cons v' vs=>
    obtain⟨x,r,hx,h1,h2⟩:=hk;simp only[lX,List.cons.injEq]at hx;obtain⟨rfl,rfl⟩:=hx;obtain⟨y,r,hy,h3,h4⟩:=hv;simp only[lX,List.cons.injEq]at hy;obtain⟨rfl,rfl⟩:=hy;have h0:=hf 0 k' e rfl rfl;cases hs:lF ty k k' with
    |true=>rw[hs]at h0;exact .inr ⟨0,e,k',v',by simp[iN,hs],by simp[q8,h0],rfl,rfl,rfl,hs,h3,h1,λv=>by simp[fL,hs]⟩
    |false=>
     rw[hs]at h0;rcases OW es ks vs (i+1) h2 h4 (λn k2 e2 h5 h6=>hf (n+1) k2 e2 (by simpa using h5) (by simpa using h6))with⟨h5,h6,h7⟩ | ⟨n,e2,k2,v2,h5,h6,h7,h8,h9,h10,h11,h12,h13⟩
     ·exact .inl ⟨by simp[iN,hs,h5],by simp[q8,h0,h6],λv=>by simp[fL,hs,h7]⟩
     ·exact .inr ⟨n+1,e2,k2,v2,by simp[iN,hs,h5],by simp[q8,h0,h6];omega,by simpa using h7,by simpa using h8,by simpa using h9,h10,h11,h12,λv=>by simp[fL,hs,h13]⟩
end
section
variable{E:bD}{P:Program}{Z:Nat->Prop}{h view:Nat->aj}{β:Nat->bd}{w:World}{s:Nat->aa}{a:Act}{fr:Nat}{o:Oper}{r:di}
def xT(ok:Bool)(x:Value)(b:Bool):Value:=match ok with |true=>.tuple #[x,.bool b] |false=>x
def OX(ok:Bool)(res:Option (Nat×Value))(z:Value):Value:=match res with |some y=>xT ok y.2 true |none=>xT ok z false
def al4{et:TypeId}{m:Nat}{res:Option (Nat×Value)}{z:Value}(hu:P.underlying t=some (.map kt et))(hm:w.heap[m]? =some (.map es clk))
  (h1:(Instr.checkKey es.isEmpty 10000 kt x).run P w=.ok () w)(h2:(Instr.findKey kt x es.toList).run P w=.ok res w)(hz:(zeroValue et).run P w=.ok z w):
  (Instr.lookup t (.map (some m)) x ok).run P w=.ok (OX ok res z) w:=by
 have hg:(getObj m).run P w=.ok (.map es clk) w:=by simp[getObj,Sem.run,hm]
 cases res with
 |none=>cases ok<;>simp[Instr.lookup,dR hu,hg,h1,h2,hz,OX,xT]
 |some y=>cases ok<;>simp[Instr.lookup,dR hu,hg,h1,h2,OX,xT]
def al5(c:ed E P Z h view β w s a){x y:Operand}(ho:o.op=.lookup t x y ok)(he:(cj E view s fr o).D=some r):fM E P Z h β w a o r:=by
 simp only[cj,ho]at he;have hx:=c.D x;have hy:=c.D y;split at he
 ·rename_i kt et hd;have hu:=(c.b.D (jh hd aB)).OD hd;split at he
  ·simp[af.D]at he
  ·rename_i hc;simp only[au]at hc;obtain⟨⟨⟨pS,gU⟩,ky⟩,o9⟩:=hc;have zx:=c.b.D pS;have zy:=c.b.D gU;obtain⟨z,pR,qP,_,_⟩:=zy.U (T:=E.a) (w:=w) (O:=aY Z h β) w (bW E.a h β);have zero:∀(u:Value),(Instr.lookup t (a.eval x) (a.eval y) ok).run P w=.ok (xT ok z false) w->
     r=.a (sj ok (gw (E.a et)) false) []->fM E P Z h β w a o r:=by
    intro u hr kz;refine⟨_,(xT ok z false),kz,by simp only[execOp,ho,eh,hr,fD];rfl,?_⟩;cases ok
    ·exact qP
    ·exact⟨_,rfl,⟨z,_,rfl,qP,⟨_,_,rfl,rfl,rfl⟩⟩⟩
   have go:∀(ks vs:List aa)(m:Nat)(es:Array MapEntry)(clk:Nat),Ox E.a t ks vs->a.eval x=.map (some m)->w.heap[m]? =some (.map es clk)->
     aF E.a w (aY Z h β) ks bh (es.toList.map (·.key))->aF E.a w (aY Z h β) vs bh (es.toList.map (·.val))->
     (af.c (iN (E.a kt) (aN E s y) ks vs).isSome
      (.g (.a (sj ok (dm (E.a et) ((iN (E.a kt) (aN E s y) ks vs).getD .m)) true) []))
      (.g (.a (sj ok (gw (E.a et)) false) [])):af di).D=some r->fM E P Z h β w a o r:=by
    intro ks vs m es clk BJ ajv hm tG fZ jN;obtain⟨zw,je⟩:=BJ kt et hd;obtain⟨f,tH,qQ⟩:=OV (P:=P) (es:=es.toList) zx o9 pS ky hy tG zw;have qR:=OU (P:=P) zx o9 pS ky hy es.isEmpty;have bm:=λok=>al4 (ok:=ok) hu hm qR qQ pR;rcases OW es.toList ks vs 0 tG fZ tH with⟨h5,h6,_⟩ | ⟨n,e,k',v',h5,h6,_,_,h9,_,h11,_⟩
    ·rw[h5]at jN;simp only[Option.isSome_none,af.D,Option.some.injEq]at jN;refine zero z ?_ jN.symm;rw[ajv,bm,h6];cases ok<;>rfl
    ·rw[h5]at jN;simp only[Option.isSome_some,af.D,Option.some.injEq,lr]at jN;have vk:=je v' (eg h9);rw[vk.2]at jN;have eo:=ax.I _ _ (bW E.a h β) _ (λ_ _ _ h=>h.elim) h11;refine⟨_,(xT ok e.val true),jN.symm,?_,?_⟩
     ·simp only[execOp,ho,ajv,eh,bm,h6,fD];cases ok<;>rfl
     ·cases ok
      ·exact eo
      ·exact⟨_,rfl,⟨_,_,rfl,eo,⟨_,_,rfl,rfl,rfl⟩⟩⟩
   split at he
   ·rename_i i hv;split at he
    ·rename_i ro t' ks vs hq;split at he
     ·rename_i iq;have:=aV iq;subst this;have hi:=c.e.D hq aB;rw[hv]at hx;obtain⟨_,hx⟩:=hx;have dd:=c.d.c i;rw[hi]at dd;obtain⟨_,BJ,es,clk,hm,tG,fZ⟩:=dd;exact go ks vs _ es clk BJ hx hm tG fZ he
     ·simp[af.D]at he
    ·simp[af.D]at he
   ·rename_i t' ks vs hv;split at he
    ·rename_i iq;have:=aV iq;subst this;rw[hv]at hx;obtain⟨m,es,clk,hx,_,_,hm,BJ,tG,fZ⟩:=hx;exact go ks vs m es clk BJ hx hm tG fZ he
    ·simp[af.D]at he
   ·rename_i hv;simp only[af.D,Option.some.injEq]at he;rw[hv]at hx;refine zero z ?_ he.symm;rw[show a.eval x=_ from hx];have qR:=OU (P:=P) zx o9 pS ky hy true;obtain⟨f,tH,qQ⟩:=OV (P:=P) (es:=[]) (ks:=[]) (R':=bh) zx o9 pS ky hy rfl aB;have H0:(Instr.findKey kt (a.eval y) []).run P w=.ok none w:=qQ;cases ok<;>simp[Instr.lookup,dR hu,qR,H0,pR,xT]
   ·simp[af.D]at he
 ·simp[af.D]at he
end
end
end Go.AH
