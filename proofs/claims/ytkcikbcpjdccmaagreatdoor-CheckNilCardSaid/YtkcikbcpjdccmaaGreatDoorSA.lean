/- A part of the proof. -/
import Derived.Test.YtkcikbcpjdccmaaGreatDoorED
import Derived.Test.YtkcikbcpjdccmaaGreatDoorProg
import Derived.KernelRfl
import Derived.RangeFuncNested
import Derived.WalkSpells
import Derived.WalkLawsBesides
import Derived.BigQuiet
import Derived.Shelf.LaysM
import Derived.Shelf.Strconv.Itoa4
import Derived.Shelf.LaysC
import Derived.Shelf.Strconv.ParseIntPublic10
import Derived.Shelf.Sort.Plain
import Derived.Ground.Names2Prog
import Derived.Shelf.Slices.CompactI
import Derived.Lib.ParseIntB
import Derived.Lib.AtoiErrMem
import Derived.Lib.ItoaNum
import Derived.Lib.RowBridge
import Derived.Lib.SlicesCompact
import Derived.Test.YtkcikbcpjdccmaaGreatDoorCards
import Derived.Test.YtkcikbcpjdccmaaGreatDoorTie
import Derived.Stop.LaidErr
set_option linter.all false
namespace Go.Proofs.YtkcikbcpjdccmaaGreatDoor
open Go Go.AH Go.Proofs.Tryz
open Go.IntKind (i64)
noncomputable section
abbrev aNx:=@Nat.beq_eq
abbrev NS:=@Go.Sort.size_putRow
abbrev aj1:=@Go.Sort.heap_grow_old
abbrev aj2:=@Go.Lib.compact_length_le
noncomputable def aj3{α:Type}(d:α)(l:List α):Nat->α:=List.rec (motive:=λ_=>Nat->α) (λ_=>d) (λa _ h i=>Nat.rec (motive:=λ_=>α) a (λj _=>h j) i) l
noncomputable def aLj:List (List bz):=let n:=IW;let f:bz:=⟨1,false,8,[.h],.m,false⟩;let s:Nat->bz:=λe=>⟨1,false,24,[.c e],.a e,false⟩;let p:Nat->bz:=λe=>⟨1,false,8,[.f],.l e,false⟩;let t:Nat->List bY->Bool->bz:=λb l e=>⟨l.length,true,b,l,.f ((List.range l.length).map λi=>(i,1,false)),e⟩; [[n,f,⟨1,false,8,[.a .i64],.c .i64,false⟩,⟨1,false,8,[.a .i64],.c .i64,false⟩,⟨1,false,1,[.d],.i,false⟩,⟨1,false,1,[.a .u8],.c .u8,false⟩,⟨1,false,1,[.a .u8],.c .u8,false⟩,t 24 [.a .i64,.a .i64,.d,.a .u8] false,t 24 [.a .i64,.a .i64,.d,.a .u8] false,⟨1,false,16,[.b],.b,false⟩,⟨1,false,16,[.b],.b,false⟩,⟨1,false,16,[.b],.b,false⟩,⟨1,false,8,[.a .u64],.c .u64,false⟩,t 24 [.b,.a .u64] false,t 24 [.b,.a .u64] false,p 396,p 399,p 407,t 8 [.f] false,t 8 [.f] false],[⟨1,false,16,[.i],.h,false⟩,⟨1,false,4,[.a .i32],.c .i32,false⟩,f,p 38,t 24 [.b,.a .i64] true,t 24 [.b,.a .i64] true,t 16 [.a .i64,.a .i64] true,t 16 [.a .i64,.a .i64] true,⟨1,false,8,[.a .i64],.c .i64,false⟩,n,f,f,s 43,t 24 [.c 43] false,t 24 [.c 43] false,s 48,⟨1,false,8,[.g],.g 9 54,false⟩,⟨3,true,56,[.c 43,.c 48,.g],.f [(0,1,true),(1,1,false),(2,1,false)],false⟩,⟨3,true,56,[.c 43,.c 48,.g],.f [(0,1,true),(1,1,false),(2,1,false)],false⟩,s 23],[s 101,s 97,t 80 [.b,.c 101,.a .i64,.c 97,.a .i64] false,t 80 [.b,.c 101,.a .i64,.c 97,.a .i64] false,n,f,s 3,t 48 [.b,.c 3,.a .i64] false,t 48 [.b,.c 3,.a .i64] false,n,f,f,f,t 48 [.b,.c 3,.a .i64] false,s 72,f,f,t 48 [.b,.a .i64,.b,.a .i64] true,s 57],[f,n,f,f,f,f,f,f,f,f,f,t 48 [.b,.a .i64,.a .i64,.a .i64,.a .i64] true,t 48 [.b,.a .i64,.a .i64,.a .i64,.a .i64] true,s 80,n,f,n,f,f,t 32 [.a .i64,.b,.a .i64] true],[t 32 [.a .i64,.b,.a .i64] true,n,f,f,n,f,n,f,f,f,f,f,f,f,p 97,s 177,t 128 [.a .i64,.a .i64,.b,.a .i64,.b,.c 177,.c 97,.c 97] false,t 128 [.a .i64,.a .i64,.b,.a .i64,.b,.c 177,.c 97,.c 97] false,f,f],[t 24 [.b,.a .i64] true,t 24 [.b,.a .i64] true,f,f,f,n,f,f,f,p 111,t 32 [.c 80,.a .i64] false,t 32 [.c 80,.a .i64] false,f,n,f,⟨1,false,8,[.g],.g 9 48,false⟩,f,f,f,f],[f,f,t 56 [.c 48,.c 72,.a .i64] false,t 56 [.c 48,.c 72,.a .i64] false,f,f,n,f,s 125,f,f,f,f,f,f,f,n,f,f,f],[f,⟨23,true,368,List.replicate 23 .b,.d 23 9,false⟩,f,n,f,n,f,f,f,f,f,f,p 198,p 156,⟨1,false,8,[.g],.g 9 3,false⟩,t 32 [.c 72,.g] false,t 32 [.c 72,.g] false,f,f,f],[f,f,f,p 165,⟨11,true,168,[.f,.a .i64,.a .i64,.b,.a .i64,.b,.c 177,.c 97,.c 97,.c 97,.a .i64],.f [(0,1,false),(1,8,true),(9,1,false),(10,1,false)],false⟩,⟨11,true,168,[.f,.a .i64,.a .i64,.b,.a .i64,.b,.c 177,.c 97,.c 97,.c 97,.a .i64],.f [(0,1,false),(1,8,true),(9,1,false),(10,1,false)],false⟩,f,n,f,f,s 4,f,s 170,f,f,f,t 64 [.a .i64,.a .i64,.a .i64,.b,.c 177] false,t 64 [.a .i64,.a .i64,.a .i64,.b,.c 177] false,f,f],[f,s 9,f,f,f,f,⟨15,true,240,List.replicate 15 .b,.d 15 9,false⟩,⟨1,false,16,[.i],.h,false⟩,⟨1,false,16,[.i],.h,false⟩,n,f,f,f,n,t 16 [.a .i64,.a .i64] true,t 16 [.a .i64,.a .i64] true,n,t 32 [.c 80,.a .i64] false,t 32 [.c 80,.a .i64] false,f],[f,f,f,n,f,f,f,f,f,f,f,f,s 46,f,f,n,f,n,f,f],[f,f,f,f,f,⟨256,true,256,List.replicate 256 .d,.d 256 4,false⟩,⟨256,true,256,List.replicate 256 .d,.d 256 4,false⟩,n,f,f,p 226,f,f,s 236,f,t 24 (List.replicate 6 .d++ [.a .i64,.a .i64]) true,t 24 (List.replicate 6 .d++ [.a .i64,.a .i64]) true,f,f,f],[f,f,f,⟨1,false,8,[.a .u64],.c .u64,false⟩,⟨4,true,64,[.b,.b,.b,.b],.d 4 9,false⟩,s 249,f,f,t 24 [.b,.h] false,t 24 [.b,.h] false,f,f,n,f,f,f,f,f,t 32 [.c 72,.a .i64] false,t 32 [.c 72,.a .i64] false],[f,f,f,⟨9,true,72,List.replicate 9 .h,.d 9 262,false⟩,f,f,f,f,n,f,f,⟨256,true,256,List.replicate 256 (.a .u8),.d 256 5,false⟩,f,f,f,f,⟨1,false,8,[.a .i64],.c .i64,false⟩,⟨1,false,8,[.a .u64],.c .u64,false⟩,n,f],[p 325,f,f,f,⟨24,true,24,List.replicate 24 (.a .u8),.d 24 5,false⟩,f,f,s 5,n,f,⟨1,false,4,[.a .u32],.c .u32,false⟩,n,f,f,f,s 41,f,f,f,f],[f,f,f,f,⟨1,false,8,[.a .i64],.c .i64,false⟩,n,f,f,f,f,f,f,f,s 315,t 16 [.a .i64,.a .i64] true,t 16 [.a .i64,.a .i64] true,f,p 349,s 321,f],[t 40 [.d,.a .i64,.a .i64,.a .i64,.a .i64] true,t 40 [.d,.a .i64,.a .i64,.a .i64,.a .i64] true,f,f,t 48 [.b,.b,.i] false,t 48 [.b,.b,.i] false,f,f,⟨20,true,160,List.replicate 20 (.a .u64),.d 20 277,false⟩,⟨65,true,65,List.replicate 65 (.a .u8),.d 65 5,false⟩,n,f,n,f,f,s 368,f,⟨1,false,8,[.a .u64],.c .u64,false⟩,f,f],[f,p 3,f,t 2 [.a .u8,.a .u8] true,t 2 [.a .u8,.a .u8] true,⟨32,true,32,List.replicate 32 (.a .u8),.d 16 344,false⟩,s 352,s 355,t 56 [.c 352,.c 355,.a .i64] false,t 56 [.c 352,.c 355,.a .i64] false,⟨1,false,2,[.a .u16],.c .u16,false⟩,t 6 [.a .u16,.a .u16,.a .u16] true,t 6 [.a .u16,.a .u16,.a .u16] true,f,t 12 [.a .u32,.a .u32,.a .u32] true,t 12 [.a .u32,.a .u32,.a .u32] true,f,p 5,p 360,t 16 [.b] true],[t 16 [.b] true,f,p 28,p 365,t 32 [.c 80,.a .i64] false,t 32 [.c 80,.a .i64] false,f,t 32 [.a .i64,.a .i64,.a .i64,.a .i64] true,t 32 [.a .i64,.a .i64,.a .i64,.a .i64] true,f,p 337,f,p 352,p 355,⟨32,true,32,List.replicate 32 (.a .u8),.d 32 5,false⟩,⟨64,true,64,List.replicate 64 (.a .u8),.d 64 5,false⟩,t 16 [.a .i64,.a .i64] true,t 16 [.a .i64,.a .i64] true,n,f],[f,f,f,n,f,f,n,f,f,s 391,t 24 [.b,.a .i64] true,t 24 [.b,.a .i64] true,f,f,f,t 40 [.f,.f,.f,.b] false,t 40 [.f,.f,.f,.b] false],[f,⟨1,false,1,[.a .u8],.c .u8,false⟩,⟨1,false,1,[.a .u8],.c .u8,false⟩,f,⟨1,false,4,[.a .i32],.c .i32,false⟩,⟨1,false,4,[.a .i32],.c .i32,false⟩,t 48 [.a .u64,.a .u64,.a .u32,.a .u8,.a .u8,.a .u8,.a .u8,.h,.f,.a .i32,.a .i32] false,t 48 [.a .u64,.a .u64,.a .u32,.a .u8,.a .u8,.a .u8,.a .u8,.h,.f,.a .i32,.a .i32] false]]
noncomputable def aJ(t:TypeId):bz:=match Nat.blt t 408 with |true=>aj3 IW (aj3 [] aLj (t/20)) (t % 20) |false=>IW
def FY:Nat:=408
def aoq:((List.range FY).all λt=> !(aJ t).D ||Jd prog t (aJ t))=true:=ae
def aW:cH prog aJ:=λt h=>by
 by_cases ht:t<FY
 ·have h1:=List.all_eq_true.1 aoq t (List.mem_range.2 ht);rw[h]at h1;simpa using h1
 ·have h1:aJ t=IW:=by
   unfold aJ;have:Nat.blt t FY=false:=by
    cases hq:Nat.blt t FY with
    |false=>rfl
    |true=>exact absurd (ft hq) ht
   rw[show Nat.blt t 408=Nat.blt t FY from rfl,this]
  rw[h1]at h;cases h
noncomputable def bV(f:Func)(b:Bool)(l m:List (Nat×List Nat))(d:List Nat)(n:Nat):AH.dQ:=⟨f,b,PH l,PH m,abJ d,n⟩
noncomputable def aX(f:Func):=bV f false [] [] [] 0
noncomputable def PZ:=aX f72
noncomputable def P0:=aX f76
noncomputable def P1:=aX f74
noncomputable def sL:=bV f73 false [(2,[0,1,5])] [(2,[5])] [] 0
noncomputable def P2:=aX f25
noncomputable def P3:=bV f44 false [(6,[0,1,5])] [(6,[4])] [] 0
noncomputable def P4:=aX f45
noncomputable def Aj:=bV f81 false [(2,[0,1,5])] [(2,[4])] [] 0
noncomputable def P5:=aX f111
noncomputable def P6:=aX f70
noncomputable def P7:=aX f112
noncomputable def P8:=aX f71
noncomputable def uk:=bV f42 false [(4224,[0,3]),(2,[0,3])] [(4224,[2]),(2,[2,3])] [] 0
noncomputable def C6:=bV f152 false [(2,[0,1,7,8])] [(2,[4])] [] 0
noncomputable def P9:=aX f105
noncomputable def P_:=aX f75
noncomputable def P':=aX f77
noncomputable def C7:=bV f43 false [(3,[0,11,12])] [(3,[2,3])] [] 0
noncomputable def yo:=bV f23 false [(3,[0,5,6])] [(3,[2,3,4,5])] [] 0
noncomputable def J6:=aX f182
noncomputable def vZ:=bV f148 false [(1,[0,1])] [(1,[0])] [] 0
noncomputable def v_:=bV f149 false [(1,[0,1])] [(1,[0])] [] 0
noncomputable def Qa:=aX f104
noncomputable def Qb:=aX f63
noncomputable def Qc:=aX f233
noncomputable def Qd:=aX f190
noncomputable def Qe:=aX f158
noncomputable def Ak:=bV f189 false [(5,[1,2,6,18,19,20])] [(5,[5,6])] [] 0
noncomputable def Qf:=aX f211
noncomputable def Qg:=aX f174
noncomputable def Qh:=aX f154
noncomputable def Qi:=aX f155
noncomputable def Qj:=aX f64
noncomputable def Qk:=aX f109
noncomputable def Ql:=aX f157
noncomputable def C8:=bV f188 false [(2,[0,1,7,8])] [(2,[4])] [] 0
noncomputable def Qm:=aX f156
noncomputable def Qn:=aX f67
noncomputable def yp:=bV f108 false [(4,[1,2,3,16,17,18])] [(4,[6])] [] 0
noncomputable def Qo:=aX f34
noncomputable def Qp:=aX f66
noncomputable def wa:=bV f37 false [(1,[0,1,6,7])] [(1,[])] [] 0
noncomputable def Al:=bV f27 false [(4,[12,13,14])] [(4,[2])] [] 0
noncomputable def Qq:=aX f48
noncomputable def C9:=bV f107 false [(2,[0,1,7,8])] [(2,[4])] [] 0
noncomputable def Qr:=aX f65
noncomputable def Qs:=aX f103
noncomputable def Qt:=aX f102
noncomputable def Qu:=aX f62
noncomputable def Qv:=aX f61
noncomputable def Qw:=aX f30
noncomputable def Qx:=aX f31
noncomputable def Qy:=aX f15
noncomputable def Am:=bV f144 false [(4,[1,2,15,16,17])] [(4,[6])] [] 0
noncomputable def An:=bV f101 false [(4,[1,2,15,16,17])] [(4,[6])] [] 0
noncomputable def Ao:=bV f60 false [(4,[0,1,12,13])] [(4,[4])] [] 0
noncomputable def Ap:=bV f89 false [(4,[0,1,12,13])] [(4,[4])] [] 0
noncomputable def Aq:=bV f59 false [(4,[1,2,15,16,17])] [(4,[6])] [] 0
noncomputable def Qz:=aX f282
noncomputable def qi:=bV f287 false [(2,[0,6])] [(2,[0,2])] [] 0
noncomputable def QA:=aX f286
noncomputable def QB:=aX f288
noncomputable def QC:=aX f271
noncomputable def QD:=aX f264
noncomputable def QE:=aX f263
noncomputable def QF:=aX f270
noncomputable def QG:=aX f277
noncomputable def QH:=aX f276
noncomputable def QI:=aX f278
noncomputable def QJ:=aX f274
noncomputable def QK:=aX f279
noncomputable def QL:=aX f284
noncomputable def QM:=aX f281
noncomputable def QN:=aX f285
noncomputable def J7:=bV f283 false [(2,[0,1,7,8])] [(2,[4])] [] 0
noncomputable def QO:=aX f273
noncomputable def QP:=aX f272
noncomputable def QQ:=aX f280
noncomputable def Ar:=bV f265 false [(2,[0,1,2,6,7])] [(2,[6])] [] 0
noncomputable def J8:=bV f262 false [] [] [6] 0
noncomputable def QR:=bV f266 false [] [] [] 2
noncomputable def QS:=bV f244 false [(3,[0,1,2,6,7,8,23])] [(3,[0,1,2,6,7,8,23])] [6] 1
noncomputable def QT:=bV f261 false [] [] [] 2
noncomputable def wc:=bV f243 false [(3,[0,1,2,6,7,8,22]),(8,[2,6,7,8,9])] [(3,[0,1,2,6,7,8,22]),(8,[6,7,8])] [7,8,10,1000008] 1
noncomputable def J9:=bV f117 false [(2,[0,5,6])] [(2,[2])] [] 0
noncomputable def QU:=aX f119
noncomputable def QV:=aX f120
noncomputable def QW:=aX f122
noncomputable def QX:=aX f121
noncomputable def QY:=aX f209
noncomputable def QZ:=aX f168
noncomputable def Q0:=aX f208
noncomputable def Q1:=aX f207
noncomputable def Q2:=aX f201
noncomputable def Q3:=aX f202
noncomputable def Q4:=aX f203
noncomputable def Q5:=aX f204
noncomputable def Q6:=aX f205
noncomputable def Q7:=aX f206
noncomputable def Q8:=bV f167 false [] [] [8,1000008] 0
noncomputable def J_:=bV f123 false [(2,[0,1,4,8,9,10])] [(2,[0,4])] [] 0
noncomputable def As:=bV f88 false [(5,[0,1,5])] [(5,[5])] [] 0
noncomputable def Q9:=aX f166
noncomputable def Q_:=bV f87 false [(3,[0,1,2,3,8,9,10,25])] [(3,[0,1,2,3,8,9,10,25])] [6] 1
noncomputable def Ra:=bV f118 false [] [] [6] 2
noncomputable def Rb:=aX f47
noncomputable def Rc:=aX f116
noncomputable def Re:=aX f82
noncomputable def Rf:=aX f83
noncomputable def Rg:=aX f86
noncomputable def Rh:=aX f85
noncomputable def Au:=bV f84 false [(4,[0,1,6])] [(4,[4,5,6])] [] 0
noncomputable def Ri:=aX f46
noncomputable def Rj:=bV f26 false [] [] [6] 0
noncomputable def um:=bV f12 false [(10,[2,3,5,8,9,10,11])] [(10,[2,3,4,10])] [] 0
noncomputable def Rk:=bV f24 false [] [] [2] 0
noncomputable def Rl:=bV f69 true [(3,[3,8,9,10])] [(3,[3])] [] 0
noncomputable def yq:=bV f18 false [(5,[2,3,23,24,25])] [(5,[2,3])] [10] 0
noncomputable def Rm:=aX f33
noncomputable def C_:=bV f16 false [(2,[0,1,7,8])] [(2,[4])] [] 0
noncomputable def Rn:=aX f32
noncomputable def uo:=bV f49 false [(3,[2,3,12,13,14])] [(3,[2,3])] [] 0
noncomputable def Av:=bV f28 false [(7,[6,7,22,23,24])] [(7,[2,3,4,6,7])] [] 0
noncomputable def Ro:=aX f19
noncomputable def Rp:=aX f41
noncomputable def Rq:=aX f131
noncomputable def Rr:=aX f50
noncomputable def C':=bV f40 false [(2,[0,1,7,8])] [(2,[4])] [] 0
noncomputable def Rs:=aX f179
noncomputable def Rt:=aX f172
noncomputable def Ru:=aX f173
noncomputable def J':=aX f171
noncomputable def Rv:=aX f141
noncomputable def Rw:=aX f128
noncomputable def uq:=bV f210 false [(2,[0,1,7,8])] [(2,[4])] [] 0
noncomputable def Rx:=aX f246
noncomputable def Ry:=aX f247
noncomputable def Da:=bV f245 false [(3,[1,2,8,11,12,13])] [(3,[6,7,8])] [] 0
noncomputable def RA:=aX f268
noncomputable def RB:=aX f214
noncomputable def RC:=aX f215
noncomputable def RD:=aX f212
noncomputable def yr:=bV f213 false [(3,[2,6,11,12,13])] [(3,[4,5,6])] [] 0
noncomputable def RE:=aX f175
noncomputable def RF:=aX f129
noncomputable def RG:=aX f267
noncomputable def Db:=bV f275 false [(2,[0,1,7,8])] [(2,[4])] [] 0
noncomputable def RH:=aX f95
noncomputable def Aw:=bV f96 false [(3,[2,3,6,12,13,14])] [(3,[4,5,6])] [] 0
noncomputable def RI:=aX f97
noncomputable def RJ:=aX f130
noncomputable def RK:=aX f54
noncomputable def Ax:=bV f178 false [(5,[0,2,30,31,32])] [(5,[])] [] 0
noncomputable def Ay:=bV f140 false [(7,[6,19,20,21])] [(7,[6])] [] 0
noncomputable def RL:=aX f93
noncomputable def Dc:=bV f169 false [(4,[3,4,5])] [(4,[3,4,5])] [] 0
noncomputable def RM:=aX f124
noncomputable def Ka:=bV f170 false [(3,[3,16,17,18])] [(3,[2,3])] [] 0
noncomputable def RN:=aX f125
noncomputable def RO:=aX f136
noncomputable def we:=bV f248 false [(1,[0,1])] [(1,[4])] [] 0
noncomputable def RP:=aX f217
noncomputable def Kb:=aX f216
noncomputable def Kc:=aX f90
noncomputable def RQ:=aX f91
noncomputable def ry:=bV f51 false [(6,[1,2,3,4,6,24,25,26]),(13,[1,2,3,4,6])] [(6,[1,2,3,4,6]),(13,[1,2,3,4,6])] [] 0
noncomputable def RR:=aX f132
noncomputable def Kd:=bV f176 false [(9,[2,3,5,30,31,32])] [(9,[5])] [] 0
noncomputable def Dd:=bV f133 false [(3,[1,3])] [(3,[1,3])] [2000000] 0
noncomputable def RS:=aX f177
noncomputable def RT:=aX f138
noncomputable def nM:=bV f98 false [(4416,[3,4,5])] [(4416,[2])] [] 0
noncomputable def RU:=aX f56
noncomputable def ur:=bV f58 false [(6,[3,4,5,7]),(9,[4,5,7,8,28,29,30])] [(6,[3,4,5,7]),(9,[4,5])] [] 0
noncomputable def Ke:=bV f29 false [(5,[7,27,28,29])] [(5,[4,5,6,7])] [] 0
noncomputable def De:=bV f52 false [(2,[0,1,2,3,4])] [(2,[0,1,2,3,4])] [] 0
noncomputable def RV:=aX f55
noncomputable def RW:=aX f57
noncomputable def Az:=bV f13 false [(12,[3,6,9,52,53,54])] [(12,[2,3,4,9])] [] 0
noncomputable def RX:=bV f5 false [] [] [3] 0
noncomputable def FZ:=aX f14
noncomputable def sM:=aX f6
noncomputable def Kf:=aX f9
noncomputable def Kg:=aX f7
noncomputable def Kh:=aX f11
noncomputable def Ki:=aX f8
noncomputable def qj:=aX f137
noncomputable def RY:=aX f310
noncomputable def RZ:=aX f311
noncomputable def AA:=bV f100 false [(3,[0,3,5,11,12,13])] [(3,[0,3,5])] [] 0
noncomputable def yt:=bV f139 false [(3,[0,1,5,8,9])] [(3,[5])] [] 0
noncomputable def Kj:=bV f4 false [(2,[25,26,27])] [(2,[0])] [] 0
noncomputable def mo:=bV f3 false [(8,[0,5,38,39,40])] [(8,[4])] [] 0
noncomputable def acf:iR AH.dQ:=(.g 123 J_ (.g 62 Qu (.g 32 Rn (.g 16 C_ (.g 9 Kf (.g 6 sM (.g 4 Kj (.g 3 mo .c .c) (.g 5 RX .c .c)) (.g 8 Ki (.g 7 Kg .c .c) .c)) (.g 13 Az (.g 11 Kh (.g 10 (aX f10) .c .c) (.g 12 um .c .c)) (.g 15 Qy (.g 14 FZ .c .c) .c))) (.g 26 Rj (.g 23 yo (.g 19 Ro (.g 18 yq .c .c) (.g 21 (bV f21 false [(4,[0,1,5])] [(4,[4])] [] 0) .c .c)) (.g 25 P2 (.g 24 Rk .c .c) .c)) (.g 29 Ke (.g 28 Av (.g 27 Al .c .c) .c) (.g 31 Qx (.g 30 Qw .c .c) .c)))) (.g 49 uo (.g 43 C7 (.g 40 C' (.g 34 Qo (.g 33 Rm .c .c) (.g 37 wa .c .c)) (.g 42 uk (.g 41 Rp .c .c) .c)) (.g 46 Ri (.g 45 P4 (.g 44 P3 .c .c) .c) (.g 48 Qq (.g 47 Rb .c .c) .c))) (.g 56 RU (.g 53 (aX f53) (.g 51 ry (.g 50 Rr .c .c) (.g 52 De .c .c)) (.g 55 RV (.g 54 RK .c .c) .c)) (.g 59 Aq (.g 58 ur (.g 57 RW .c .c) .c) (.g 61 Qv (.g 60 Ao .c .c) .c))))) (.g 93 RL (.g 77 P' (.g 70 P6 (.g 66 Qp (.g 64 Qj (.g 63 Qb .c .c) (.g 65 Qr .c .c)) (.g 69 Rl (.g 67 Qn .c .c) .c)) (.g 74 P1 (.g 72 PZ (.g 71 P8 .c .c) (.g 73 sL .c .c)) (.g 76 P0 (.g 75 P_ .c .c) .c))) (.g 87 Q_ (.g 84 Au (.g 82 Re (.g 81 Aj .c .c) (.g 83 Rf .c .c)) (.g 86 Rg (.g 85 Rh .c .c) .c)) (.g 90 Kc (.g 89 Ap (.g 88 As .c .c) .c) (.g 92 (bV f92 false [(3,[2])] [(3,[2])] [] 0) (.g 91 RQ .c .c) .c)))) (.g 106 (aX f106) (.g 100 AA (.g 97 RI (.g 95 RH (.g 94 (aX f94) .c .c) (.g 96 Aw .c .c)) (.g 99 (bV f99 false [(7,[1,2,5,6,7]),(18,[1,2,5,6,7,9,73,74,75])] [(7,[5]),(18,[1,2,5,6,7])] [] 0) (.g 98 nM .c .c) .c)) (.g 103 Qs (.g 102 Qt (.g 101 An .c .c) .c) (.g 105 P9 (.g 104 Qa .c .c) .c))) (.g 117 J9 (.g 111 P5 (.g 108 yp (.g 107 C9 .c .c) (.g 109 Qk .c .c)) (.g 116 Rc (.g 112 P7 .c .c) .c)) (.g 120 QV (.g 119 QU (.g 118 Ra .c .c) .c) (.g 122 QW (.g 121 QX .c .c) .c)))))) (.g 205 Q6 (.g 157 Ql (.g 139 yt (.g 130 RJ (.g 127 (bV f127 false [(2,[0,1,2,10,11,12])] [(2,[6])] [] 0) (.g 125 RN (.g 124 RM .c .c) (.g 126 (aX f126) .c .c)) (.g 129 RF (.g 128 Rw .c .c) .c)) (.g 136 RO (.g 132 RR (.g 131 Rq .c .c) (.g 133 Dd .c .c)) (.g 138 RT (.g 137 qj .c .c) .c))) (.g 149 v_ (.g 144 Am (.g 141 Rv (.g 140 Ay .c .c) (.g 142 (aX f142) .c .c)) (.g 148 vZ (.g 147 (bV f147 false [(2,[0,2,4])] [(2,[2,3])] [] 0) .c .c) .c)) (.g 154 Qh (.g 153 (bV f153 false [(5,[0,3,4,5,6]),(18,[0,9,10,12]),(21,[0,9,10,11,12]),(27,[0,9,10,12])] [(5,[0,3,5]),(18,[0,9,10,12]),(21,[0,9,10,11]),(27,[0,9,10,12])] [] 0) (.g 152 C6 .c .c) .c) (.g 156 Qm (.g 155 Qi .c .c) .c)))) (.g 177 RS (.g 171 J' (.g 168 QZ (.g 166 Q9 (.g 158 Qe .c .c) (.g 167 Q8 .c .c)) (.g 170 Ka (.g 169 Dc .c .c) .c)) (.g 174 Qg (.g 173 Ru (.g 172 Rt .c .c) .c) (.g 176 Kd (.g 175 RE .c .c) .c))) (.g 189 Ak (.g 181 (aX f181) (.g 179 Rs (.g 178 Ax .c .c) (.g 180 (bV f180 false [(2,[0,1,2,3,8,9])] [(2,[])] [] 0) .c .c)) (.g 188 C8 (.g 182 J6 .c .c) .c)) (.g 202 Q3 (.g 201 Q2 (.g 190 Qd .c .c) .c) (.g 204 Q5 (.g 203 Q4 .c .c) .c))))) (.g 264 QD (.g 218 (bV f218 false [(1,[0,1,2,6]),(4,[0,1,2,6,7])] [(1,[]),(4,[0,1,2,6])] [] 0) (.g 212 RD (.g 209 QY (.g 207 Q1 (.g 206 Q7 .c .c) (.g 208 Q0 .c .c)) (.g 211 Qf (.g 210 uq .c .c) .c)) (.g 215 RC (.g 214 RB (.g 213 yr .c .c) .c) (.g 217 RP (.g 216 Kb .c .c) .c))) (.g 246 Rx (.g 243 wc (.g 228 (aX f228) (.g 227 (aX f227) .c .c) (.g 233 Qc .c .c)) (.g 245 Da (.g 244 QS .c .c) .c)) (.g 261 QT (.g 248 we (.g 247 Ry .c .c) .c) (.g 263 QE (.g 262 J8 .c .c) .c)))) (.g 278 QI (.g 272 QP (.g 268 RA (.g 266 QR (.g 265 Ar .c .c) (.g 267 RG .c .c)) (.g 271 QC (.g 270 QF .c .c) .c)) (.g 275 Db (.g 274 QJ (.g 273 QO .c .c) .c) (.g 277 QG (.g 276 QH .c .c) .c))) (.g 285 QN (.g 282 Qz (.g 280 QQ (.g 279 QK .c .c) (.g 281 QM .c .c)) (.g 284 QL (.g 283 J7 .c .c) .c)) (.g 288 QB (.g 287 qi (.g 286 QA .c .c) .c) (.g 311 RZ (.g 310 RY .c .c) .c)))))))
def aor:iR (List Bool):=(.g 171 [false,true] (.g 85 [true] (.g 40 [false,true] (.g 16 [false,true] (.g 9 [true] (.g 7 [true,false] (.g 6 [true,true] .c .c) (.g 8 [true,false] .c .c)) (.g 14 [true] (.g 11 [true,false] .c .c) .c)) (.g 32 [false,true] (.g 24 [false,false,true] (.g 17 [false,true] .c .c) (.g 30 [false,false,true] .c .c)) (.g 38 [true,true] (.g 37 [true,true] .c .c) .c))) (.g 59 [false,false,true] (.g 52 [true,true,true] (.g 46 [true] (.g 41 [false,true] .c .c) (.g 48 [true,true,true] .c .c)) (.g 57 [true,true] (.g 55 [true] .c .c) .c)) (.g 82 [true,false,false] (.g 65 [false,true] (.g 61 [false,false,true] .c .c) (.g 73 [false,true] .c .c)) (.g 84 [true,true] (.g 83 [true] .c .c) .c)))) (.g 122 [true,false] (.g 102 [false,false,true] (.g 90 [true,false] (.g 87 [false,false,false,true] (.g 86 [true] .c .c) (.g 88 [true,false] .c .c)) (.g 101 [false,false,true] (.g 92 [true,true] .c .c) .c)) (.g 118 [true,true,true] (.g 108 [false,false,true,true] (.g 107 [false,true] .c .c) (.g 116 [true] .c .c)) (.g 121 [true,false] (.g 119 [true,false,false,false] .c .c) .c))) (.g 143 [true] (.g 130 [false,true] (.g 126 [true,true] (.g 123 [true,false] .c .c) (.g 127 [true,false,true] .c .c)) (.g 142 [true] (.g 139 [true,false] .c .c) .c)) (.g 156 [false,true] (.g 148 [false,true] (.g 144 [false,false,true] .c .c) (.g 149 [false,true] .c .c)) (.g 168 [true] (.g 167 [true,false] .c .c) .c))))) (.g 264 [true,false,false] (.g 206 [true,false] (.g 188 [false,true] (.g 180 [true] (.g 178 [false,false,true] (.g 172 [false,true,true] .c .c) (.g 179 [false,true] .c .c)) (.g 186 [false,true] (.g 182 [true,false] .c .c) .c)) (.g 203 [true,false] (.g 201 [true,false] (.g 189 [false,false,true] .c .c) (.g 202 [true,false] .c .c)) (.g 205 [true,false] (.g 204 [true,false] .c .c) .c))) (.g 248 [true,false] (.g 210 [false,true] (.g 208 [true] (.g 207 [true] .c .c) (.g 209 [true,false] .c .c)) (.g 232 [true,false] (.g 218 [true] .c .c) .c)) (.g 261 [true,true,true] (.g 252 [false,false,true] (.g 251 [true] .c .c) (.g 253 [false,false,false,false,true] .c .c)) (.g 263 [true,false] (.g 262 [false,true,true] .c .c) .c)))) (.g 278 [true,false] (.g 271 [true,false,false] (.g 268 [false,true] (.g 266 [true,true,true] (.g 265 [true,false,false] .c .c) (.g 267 [false,true] .c .c)) (.g 270 [true,false,false] (.g 269 [false,false,false,true] .c .c) .c)) (.g 275 [false,true] (.g 273 [true] (.g 272 [true,false] .c .c) (.g 274 [true,false] .c .c)) (.g 277 [true] (.g 276 [true] .c .c) .c))) (.g 299 [true] (.g 285 [false,true] (.g 280 [true,false,false] (.g 279 [true] .c .c) (.g 283 [false,true] .c .c)) (.g 298 [true] (.g 297 [true] .c .c) .c)) (.g 303 [true] (.g 301 [true] (.g 300 [true] .c .c) (.g 302 [true] .c .c)) (.g 306 [true] (.g 305 [true] .c .c) .c))))))
def YS{α:Type}:iR α->List (Nat×α)
 | .c=> []
 | .g k a l r=>(k,a)::(YS l++YS r)
def YT{α:Type}{p:Nat->α->Prop}:∀{t:iR α},(∀x∈YS t,p x.1 x.2)->t.I p
 | .c,_=>trivial
 | .g k a l r,h=>⟨h (k,a) (.head _),YT λx q=>h x (.tail _ (M_ _ q)),YT λx q=>h x (.tail _ (X1 _ q))⟩
def aj4{α β:Type}{f g:α->β}:∀{l:List α},l.map f=l.map g->∀x∈l,f x=g x
 |a::l,h,x,q=>by
  injection h with h1 h2;cases q with
  |head=>exact h1
  |tail _ q=>exact aj4 h2 x q
set_option maxRecDepth 100000 in
def aos:acf.I λf d=>prog.funcs[f]? =some d.a:=YT (aj4 (f:=λx:Nat×AH.dQ=>prog.funcs[x.1]?) (g:=λx=>some x.2.a) ae)
def cO:Nat->aa:=λg=>match g with
 |0=>.A [.h [124,124],.h [38,38],.h [61,61],.h [33,61],.h [60,61],.h [62,61],.h [40],.h [41],.h [123],.h [125],.h [91],.h [93],.h [44],.h [59],.h [61],.h [60],.h [62],.h [43],.h [45],.h [42],.h [47],.h [37],.h [33]]
 |1=>.A [.h [102,117,110,99],.h [118,97,114],.h [105,102],.h [101,108,115,101],.h [119,104,105,108,101],.h [114,101,116,117,114,110],.h [112,114,105,110,116],.h [114,101,97,100],.h [110,101,119],.h [108,101,110],.h [105,110,116],.h [98,111,111,108],.h [97,114,114,97,121],.h [116,114,117,101],.h [102,97,108,115,101]]
 |3=>.A [.h [],.h [105,110,116],.h [98,111,111,108],.h [97,114,114,97,121]]
 |4=>.A [.N,.z 310 [] [],.z 311 [] [],.N,.z 311 [] [],.z 311 [] [],.N,.z 311 [] [],.N]
 |5=>.A ([.c .u8 0,.c .u8 0,.c .u8 0,.c .u8 0,.c .u8 0,.c .u8 0,.c .u8 0,.c .u8 0,.c .u8 0,.c .u8 1,.c .u8 1,.c .u8 1,.c .u8 1,.c .u8 1]++List.replicate 18 (.c .u8 0)++ [.c .u8 1]++List.replicate 223 (.c .u8 0))
 |7=>.A [.C 358 (.A [.h [105,110,118,97,108,105,100,32,115,121,110,116,97,120]])]
 |8=>.A [.C 358 (.A [.h [118,97,108,117,101,32,111,117,116,32,111,102,32,114,97,110,103,101]])]
 |9=>.A [.c .u64 1,.c .u64 10,.c .u64 100,.c .u64 1000,.c .u64 10000,.c .u64 100000,.c .u64 1000000,.c .u64 10000000,.c .u64 100000000,.c .u64 1000000000,.c .u64 10000000000,.c .u64 100000000000,.c .u64 1000000000000,.c .u64 10000000000000,.c .u64 100000000000000,.c .u64 1000000000000000,.c .u64 10000000000000000,.c .u64 100000000000000000,.c .u64 1000000000000000000,.c .u64 10000000000000000000]
 |_=>.m
def jm:Nat->aa->List aa->Nat->List aa->Option (List aa)
 |0,_,_,_,_=>none
 |_+1,_,_,_,[]=>some []
 |n+1,par,blk,i,s::r=>
  (match jm n (.A (par::(s.V++ [.d 97 blk,.c .i64 i]))) (s.D 6).U 0 (s.D 6).U,jm n (.A (par::(s.V++ [.d 97 blk,.c .i64 i]))) (s.D 7).U 0 (s.D 7).U,jm n par blk (i+1) r with
  |some a,some b,some c=>some (.A (par::(s.V++ [.d 97 blk,.c .i64 i]))::(a++(b++c)))
  |_,_,_=>none)
def aot:FuncId->List aa->Option (List aa):=λf eN=>match f,eN with
 |126,[.A fc]=>(jm 300 .B (fc.getD 3 .m).U 0 (fc.getD 3 .m).U).map λl=>l.map λp=>.q [p]
 |92,[.A fc]=>(jm 300 .B (fc.getD 3 .m).U 0 (fc.getD 3 .m).U).map λl=>l.map λp=>(match p with | .A cs=>.q [cs.getD 2 .m,.u ((cs.drop 1).take 8)] |_=>.m)
 |_,_=>none
noncomputable def acg:iR aq:=(.g 68 (yd 97) (.g 35 (yd 43) (.g 22 (kH 72) (.g 20 (kH 3) .c .c) .c) (.g 39 (kH 101) .c .c)) (.g 135 (kH 4) (.g 110 (yd 177) (.g 79 FK .c .c) .c) (.g 159 rk .c .c)))
noncomputable def Kk:eH:={a:=aJ,b:=cO,d:=aor.anH [],e:=λf eN=>anC (aot f eN),c:=acf.D,f:=acg.D}
def F0:∀f d,Kk.c f=some d->iB prog Kk f d:=anI rfl aos ae
end
end Go.Proofs.YtkcikbcpjdccmaaGreatDoor
namespace Go.Proofs.YtkcikbcpjdccmaaGreatDoor
open Go Go.AH Go.RowKit Go.Proofs.Tryz
open Go.IntKind (i64)
noncomputable section
variable{par:aa}{R R':Nat->Prop}{X Y:World}{ts:List Nat}{ops:Array Oper}{l l1:List Nat}{s:bu}{β:Nat->AH.bd}{j d i:Nat}{o:Oper}{t:Nat}{v:aa}{x:Value}{P:Program}{f:FuncId}{c:Code}{a:Act}{k:Nat}{Q:Exit->Act->World->Prop}{w:World}{O:Nat->Prop}{blk:List aa}{R1:Nat->Prop}{W:World}{L:List aa}{kn:Nat}{lb:Array Value}{md:Region.Mode}{listed:Array Bool}{K:Act->World->Prop}{ID IE:aq}{cs5:List aa}{l9:List Value}
def fF:bD:={a:=aJ,f:=λ_ _ _=>.d,d:=λ_ _ _ _=>.d,e:=λ_=> [],b:=cO,c:=λ_=> [],h:=λ_=> []}
def F1:∀g,ck fF.a fF.b prog g (fF.f g):=λg args ao out h=>by simp[fF,af.D]at h
noncomputable def yu(k:Nat):Code->Option (Array Oper)
 | .region id ops _=>(match Nat.beq id k with |true=>some ops |false=>none)
 | .seq a b=>(match yu k a with |some o=>some o |none=>yu k b)
 | .cond _ a b=>(match yu k a with |some o=>some o |none=>yu k b)
 | .block _ b=>yu k b
 | .loop b=>yu k b
 |_=>none
def cD(k:Nat):Array Oper:=(yu k (f127.body.getD .skip)).getD #[]
def ach:f127.body=some (.seq (.region 0 (cD 0) false) (.seq (.seq (.region 1 (cD 1) false) (.block 0 (.loop (.seq (.region 2 (cD 2) false) (.seq (.cond (.tmp 13) .skip (.exit 0)) (.seq (.block 1 (.seq (.region 3 (cD 3) false) (.seq (.region 4 (cD 4) false) (.seq (.region 5 (cD 5) false) (.cond (.tmp 42) (.seq (.region 6 (cD 6) false) .ret) .skip))))) (.region 7 (cD 7) false))))))) (.seq (.region 8 (cD 8) false) .ret))):=ae
def R6(par:aa)(blk:List aa)(i:Nat):bu:=⟨fy .m [(0,par),(1,.d 97 blk),(10,.d 97 blk),(11,.c .i64 blk.length),(12,.c .i64 i)],λ_=>.c,0⟩
def aci(t:af gA):bu:=match t with | .c _ (.g (.a s)) _=>s | .g (.a s)=>s |_=>⟨λ_=>.m,λ_=>.c,0⟩
def F2(par:aa)(blk:List aa)(i:Nat):bu:=aci (c8 fF false gb (cD 3).toList 0 [0,1,2,3,4,5] (R6 par blk i))
def aou(par blk)(i:Nat):c8 fF false gb (cD 3).toList 0 [0,1,2,3,4,5] (R6 par blk i)=.c (decide ((0:Int)<=i) &&decide ((i:Int)<(blk.length:Int))) (.g (.a (F2 par blk i))) .d:=ae
def iC(par:aa)(blk:List aa)(i:Nat):bu:=aci (c8 fF false gb (cD 4).toList 640 [0,1,2,3,4,5,6] (F2 par blk i))
def wg(par:aa):Prop:=par=.B\/∃cs,par=.A cs
def aov(hp:wg par)(blk)(i:Nat):c8 fF false gb (cD 4).toList 640 [0,1,2,3,4,5,6] (F2 par blk i)=.g (.a (iC par blk i)):=by rcases hp with rfl | ⟨cs,rfl⟩<;>kernel_rfl
def pA(t:Option gA):bu:=match t with |some (.a s)=>s |_=>⟨λ_=>.m,λ_=>.c,0⟩
def pB(l:List Nat)(s:bu):Option gA:=(c8 fF false gb (cD 5).toList 1280 l s).D
def acj(par:aa)(blk:List aa)(i:Nat):bu:={iC par blk i with b:=bO (iC par blk i).b 23 .m}
def F3(par:aa)(blk:List aa)(i:Nat):bu:=pA (pB [1] (acj par blk i))
def ack(par:aa)(blk:List aa)(i:Nat)(b:Bool):bu:={F3 par blk i with b:=bO (F3 par blk i).b 25 (.p b)}
def AB(par:aa)(blk:List aa)(i:Nat):bu:=pA (pB [3,4,5,6,7] (ack par blk i true))
def acm(par:aa)(blk:List aa)(i:Nat):bu:={AB par blk i with b:=bO (AB par blk i).b 31 .m}
def acn(par:aa)(blk:List aa)(i:Nat)(b:Bool):bu:={acm par blk i with b:=bO (acm par blk i).b 32 (.p b)}
def AD(par:aa)(blk:List aa)(i:Nat):bu:=pA (pB [10,11,12,13,14,15] (acn par blk i true))
def aco(par:aa)(blk:List aa)(i:Nat):bu:={AD par blk i with b:=bO (AD par blk i).b 39 .m}
def acp(par:aa)(blk:List aa)(i:Nat)(b:Bool):bu:={aco par blk i with b:=bO (aco par blk i).b 40 (.p b)}
def R7(par:aa)(blk:List aa)(i:Nat)(b:Bool):bu:=pA (pB [18,19] (acp par blk i b))
section
variable{par:aa}(hp:wg par)(blk:List aa)(i:Nat)
include hp
theorem aow:pB [1] (acj par blk i)=some (.a (F3 par blk i)):=by rcases hp with rfl | ⟨cs,rfl⟩<;>kernel_rfl
theorem aox:pB [3,4,5,6,7] (ack par blk i true)=some (.a (AB par blk i)):=by rcases hp with rfl | ⟨cs,rfl⟩<;>kernel_rfl
theorem aoy:pB [10,11,12,13,14,15] (acn par blk i true)=some (.a (AD par blk i)):=by rcases hp with rfl | ⟨cs,rfl⟩<;>kernel_rfl
theorem aoz:pB [18,19] (acp par blk i true)=some (.a (R7 par blk i true)):=by rcases hp with rfl | ⟨cs,rfl⟩<;>kernel_rfl
theorem aoA:(R7 par blk i true).a=(iC par blk i).a:=by rcases hp with rfl | ⟨cs,rfl⟩<;>kernel_rfl
theorem aoB:(F3 par blk i).a=(iC par blk i).a:=by rcases hp with rfl | ⟨cs,rfl⟩<;>kernel_rfl
theorem aoC:(AB par blk i).a=(iC par blk i).a:=by rcases hp with rfl | ⟨cs,rfl⟩<;>kernel_rfl
theorem aoD:(AD par blk i).a=(iC par blk i).a:=by rcases hp with rfl | ⟨cs,rfl⟩<;>kernel_rfl
theorem aoE:(F3 par blk i).b 24=.e 960 0:=by rcases hp with rfl | ⟨cs,rfl⟩<;>kernel_rfl
theorem aoF:(AB par blk i).b 27=.p false:=by rcases hp with rfl | ⟨cs,rfl⟩<;>kernel_rfl
theorem aoG:(AB par blk i).b 28=.e 960 0:=by rcases hp with rfl | ⟨cs,rfl⟩<;>kernel_rfl
theorem aoH:(AB par blk i).b 30=.d 97 ((blk.getD i .m).D 6).U:=by rcases hp with rfl | ⟨cs,rfl⟩<;>kernel_rfl
theorem aoI:(AD par blk i).b 35=.p false:=by rcases hp with rfl | ⟨cs,rfl⟩<;>kernel_rfl
theorem aoJ:(AD par blk i).b 36=.e 960 0:=by rcases hp with rfl | ⟨cs,rfl⟩<;>kernel_rfl
theorem aoK:(AD par blk i).b 38=.d 97 ((blk.getD i .m).D 7).U:=by rcases hp with rfl | ⟨cs,rfl⟩<;>kernel_rfl
theorem aoL:(R7 par blk i true).b 42=.p false:=by rcases hp with rfl | ⟨cs,rfl⟩<;>kernel_rfl
theorem aoM:((iC par blk i).a 960).zL=[]:=by rcases hp with rfl | ⟨cs,rfl⟩<;>kernel_rfl
theorem aoN:tX aJ (iC par blk i).a zO (.e 960 0)=.A (par::((dm (aJ 97) (blk.getD i .m)).V++ [.d 97 blk,.c .i64 i])):=by rcases hp with rfl | ⟨cs,rfl⟩<;>kernel_rfl
end
def yw:bD:={fF with b:=λ_=>.m}
def aoO:∀g,ck yw.a yw.b prog g (yw.f g):=λg args ao out h=>by simp[yw,fF,af.D]at h
def uu(l:List (Nat×aa)):bu:=⟨fy .m l,λ_=>.c,0⟩
def qk(l:List Nat)(s:bu):Option gA:=(c8 yw false gb (cD 5).toList 1280 l s).D
def AE(d:Nat)(s:bu):bu:={s with b:=iO s.b (some d) (.q [])}
def F4:bu:=pA (qk [3,4,5,6,7,8] (uu [(25,.p false)]))
def F5:bu:=pA (qk [10,11,12,13,14,15,16] (AE 32 F4))
def acq:bu:=pA (qk [18,19] (AE 40 F5))
def F6:bu:=pA (qk [10,11,12,13,14,15,16] (uu [(27,.p false),(32,.p false)]))
def acr:bu:=pA (qk [18,19] (AE 40 F6))
def acs:bu:=pA (qk [18,19] (uu [(35,.p false),(40,.p false)]))
def aoP:qk [3,4,5,6,7,8] (uu [(25,.p false)])=some (.a F4):=ae
def aoQ:qk [10,11,12,13,14,15,16] (AE 32 F4)=some (.a F5):=ae
def aoR:qk [18,19] (AE 40 F5)=some (.a acq):=ae
def aoS:qk [10,11,12,13,14,15,16] (uu [(27,.p false),(32,.p false)])=some (.a F6):=ae
def aoT:qk [18,19] (AE 40 F6)=some (.a acr):=ae
def aoU:qk [18,19] (uu [(35,.p false),(40,.p false)])=some (.a acs):=ae
def acu:F4.b 27=.p true/\F4.a=λ_=>.c:=⟨ae,ae⟩
def acv:F5.b 35=.p true/\F5.a=λ_=>.c:=⟨ae,ae⟩
def aoV:acq.b 42=.p true:=ae
def acw:F6.b 35=.p true/\F6.a=λ_=>.c:=⟨ae,ae⟩
def aoW:acr.b 42=.p true:=ae
def aoX:acs.b 42=.p true:=ae
def iU(j:Nat):Oper:=((cD 5)[j]?).getD default
def Kl:(cD 5)[0]? =some (iU 0)/\(iU 0).op=.move (.tmp 2)/\(iU 0).dst=some 23/\(iU 0).guard=none:=⟨ae,ae,ae,ae⟩
def Km:(cD 5)[2]? =some (iU 2)/\(iU 2).op=.call ⟨.value (.tmp 23),#[.tmp 24],#[163]⟩/\(iU 2).dst=some 25/\(iU 2).guard=none:=⟨ae,ae,ae,ae⟩
def Kn:(cD 5)[8]? =some (iU 8)/\(iU 8).op=.move (.tmp 2)/\(iU 8).dst=some 31/\(iU 8).guard=some (4,false):=⟨ae,ae,ae,ae⟩
def AF:(cD 5)[9]? =some (iU 9)/\(iU 9).op=.call ⟨.value (.func 127),#[.tmp 28,.tmp 30,.tmp 31],#[163,41,206]⟩/\(iU 9).dst=some 32/\(iU 9).guard=some (4,false):=⟨ae,ae,ae,ae⟩
def Ko:(cD 5)[16]? =some (iU 16)/\(iU 16).op=.move (.tmp 2)/\(iU 16).dst=some 39/\(iU 16).guard=some (12,false):=⟨ae,ae,ae,ae⟩
def uv:(cD 5)[17]? =some (iU 17)/\(iU 17).op=.call ⟨.value (.func 127),#[.tmp 36,.tmp 38,.tmp 39],#[163,41,206]⟩/\(iU 17).dst=some 40/\(iU 17).guard=some (12,false):=⟨ae,ae,ae,ae⟩
def sO:List Nat:=[0,1,2,10,11,12]
def aoY:jU 44 (cD 1)=true:=ae
def aoZ:jU 44 (cD 2)=true:=ae
def ao0:jU 44 (cD 3)=true:=ae
def ao1:jU 44 (cD 4)=true:=ae
def wh:jU 44 (cD 5)=true:=ae
def ao2:jU 44 (cD 7)=true:=ae
def ao3:List.range (cD 0).size=[0]:=ae
def ao4:List.range (cD 1).size=[0,1,2]:=ae
def ao5:List.range (cD 2).size=[0]:=ae
def ao6:List.range (cD 3).size=[0,1,2,3,4,5]:=ae
def ao7:List.range (cD 4).size=[0,1,2,3,4,5,6]:=ae
def ao8:List.range (cD 5).size=[0,1,2,3,4,5,6,7,8,9,10,11,12,13,14,15,16,17,18,19]:=ae
def ao9:List.range (cD 6).size=[0]:=ae
def ao_:List.range (cD 7).size=[0,1]:=ae
def ao':List.range (cD 8).size=[0]:=ae
section
variable{Z Z' Z'':Nat->Prop}{w w' w'':World}
def Kp(h:kI Z w Z' w')(k:kI Z' w' Z'' w''):kI Z w Z'' w'' := {
 a:=eb h.a k.a
 e:=λb hb hz=>(k.e b (dJ hb h.a) (λhz'=>by
  rcases h.c b hz' with h1 |h1
  ·exact hz h1
  ·omega)).trans (h.e b hb hz)
 c:=λb hz=>by
  rcases k.c b hz with h1 |h1
  ·exact h.c b h1
  ·exact .inr (eb h.a h1)
 d:=k.d }
end
section
variable(l:Nat)(items:List aa)(O0:Nat->Prop)(J:Nat->(Nat->Prop)->World->Prop)(Jx:World->Prop)(B:Nat)
def cS(R:Nat->Prop):Nat->Prop:=λb=>O0 b\/R b
structure nN(R:Nat->Prop)(X:World):Prop where
 a:∀b,cS O0 R b->b<X.heap.size
 c:∀g,dU aJ X (cS O0 R) (cO g) g
def nN.D(h:nN O0 R X)(e:kI (cS O0 R) X (cS O0 R') Y):nN O0 R' Y:=⟨e.d,λg=>dU.D e.D (h.c g)⟩
def R8(k:Nat)(R:Nat->Prop)(X:World)(e:Ending)(Y:World):Prop:=
 (e=.returned (.bool true)/\∃R',J k R' Y/\kI (cS O0 R) X (cS O0 R') Y)\/(e=.returned (.bool false)/\Jx Y)
structure Kq:Prop where
 a:∀k R X Y,J k R X->cc B X Y->J k R Y
 c:∀m k R X vs args,items[k]? =some (.q vs)->J k R X->aF aJ X (λb=>O0 b\/R b) vs bh args->
   YieldAt Fence.wide m prog l args.toArray X λe Y=>(e=.returned (.bool true)/\∃R',J (k+1) R' Y/\sA O0 R X R' Y)\/(e=.returned (.bool false)/\Jx Y)
def apa(h:nN O0 R X)(k:sA O0 R X R' Y):kI (cS O0 R) X (cS O0 R') Y := {
 a:=k.a
 e:=λb hb hz=>k.e b hb (λh=>hz (.inl h)) (λh=>hz (.inr h))
 c:=λb hb=>by
  rcases hb with hb |hb
  ·exact .inl (.inl hb)
  ·exact(k.c b hb).imp .inr id
 d:=λb hb=>by
  rcases hb with hb |hb
  ·exact dJ (h.a b (.inl hb)) k.a
  ·rcases k.d b hb with h1 |h1
   ·exact dJ (h.a b (.inr h1)) k.a
   ·exact h1 }
def Kr(N:Nat):Prop:=∀(par:aa)(blk L:List aa)(k0:Nat)(R:Nat->Prop)(X:World)(pv bv:Value)(m:Nat),jm N par blk 0 blk=some L->wg par->(∀j v,L[j]? =some v->items[k0+j]? =some (.q [v]))->J k0 R X->nN O0 R X->
 ax aJ X (cS O0 R) par bh pv->ax aJ X (cS O0 R) (.d 97 blk) bh bv->CallsIn Fence.wide m prog 127 #[pv,bv,.func (.yield l) #[] #[]] X (R8 O0 J Jx (k0+L.length) R X)
end
def Ks(ts:List Nat)(ops:Array Oper)(l:List Nat):Bool:=l.all λj=>match ops[j]? with |some o=>nH ts o &&Ac o |none=>false
def Kt(h:Ks ts ops l=true):∀j∈l,∃o,ops[j]? =some o/\nH ts o=true/\Ac o=true:=by
 intro j hj;have h1:=List.all_eq_true.1 h j hj;cases ho:ops[j]? with
 |none=>rw[ho]at h1;cases h1
 |some o=>rw[ho]at h1;rw[au]at h1;exact⟨o,rfl,h1.1,h1.2⟩
def sP:AH.bd:=default
section
variable{k:Nat}{Q:Exit->Act->World->Prop}{a:Act}{w:World}{l2:List Nat}
abbrev wi(s:bu)(β:Nat->AH.bd)(a:Act)(w:World):Prop:=bA yw (λ_=>False) 44 0 ⟨false,[]⟩ s β a w
def Df{s':bu}(r:wi s β a w)(dd:s.a=λ_=>.c)(cP:l1.Nodup)(hf:Ks [] (cD 5) l1=true)(he:qk l1 s=some (.a s'))(hQ:∀β' a',wi s' β' a' w->wpOpsIn Fence.wide k prog (cD 5) Q l2 a' w):wpOpsIn Fence.wide k prog (cD 5) Q (l1++l2) a w:=
 FL (E:=yw) (base:=1280) aW aoO wh l1 s β a r cP (Kt hf) (λj _ i _=>by rw[dd]) he (λβ' a' r' _ _=>hQ β' a' r')
def R9{l:List (Nat×aa)}(bE:a.tmps.size=44)(hd:a.defers=[])(hs:∀t,ax aJ w (λ_=>False) (fy .m l t) bh (a.tmps.getD t undef)):wi (uu l) (λ_=>sP) a w:=
 bA.V (E:=yw) bE hd (λb hb=>hb.elim) (λg=>⟨trivial,trivial⟩) hs
def R_(r:wi s β a w){g:Nat}(hj:(cD 5)[j]? =some o)(hf:nH [] o=true)(l_:o.dst=some d)(hg:o.guard=some (i,false))(hi:((cD 5)[i]?).bind (λo:Oper=>o.dst)=some g)(hs:s.b g=.p true)
  (hQ:∀a',wi (AE d s) β a' w->wpOpsIn Fence.wide k prog (cD 5) Q l2 a' w):wpOpsIn Fence.wide k prog (cD 5) Q (j::l2) a w:=by
 refine anQ r wh hj hf (λhw=> ?_) (λr' _=> ?_)
 ·have:=(FM r wh hg hi hs).1 hw;cases this
 ·rw[l_]at r';rw[l_];exact hQ _ r'
def Sa:((cD 5)[4]?).bind (λo:Oper=>o.dst)=some 27:=ae
def Ku:((cD 5)[12]?).bind (λo:Oper=>o.dst)=some 35:=ae
def apb:nH [] (iU 9)=true:=ae
def acx:nH [] (iU 17)=true:=ae
def Sb(r:wi s β a w){b:Bool}(hs:s.b t=.p b):a.tmps.getD t undef=.bool b:=by have:=r.m t;rw[hs]at this;exact this
def apc(bE:a.tmps.size=44)(hd:a.defers=[])(h:a.tmps.getD 25 undef=.bool false)(hQ:∀a':Act,a'.tmps.size=44->a'.defers=[]->a'.tmps.getD 42 undef=.bool true->Q .normal a' w):
  wpOpsIn Fence.wide k prog (cD 5) Q [3,4,5,6,7,8,9,10,11,12,13,14,15,16,17,18,19] a w:=by
 have r0:wi (uu [(25,.p false)]) (λ_=>sP) a w:=R9 bE hd (λt=>by
  unfold fy;split
  ·rename_i ht;rw[iZ ht];exact h
  ·trivial)
 refine Df (l1:=[3,4,5,6,7,8]) r0 rfl av ae aoP (λβ1 a1 r1=> ?_);refine R_ r1 AF.1 apb AF.2.2.1 AF.2.2.2 Sa acu.1 (λa2 r2=> ?_);refine Df (l1:=[10,11,12,13,14,15,16]) r2 acu.2 av ae aoQ (λβ3 a3 r3=> ?_);refine R_ r3 uv.1 acx uv.2.2.1 uv.2.2.2 Ku acv.1 (λa4 r4=> ?_);refine Df (l1:=[18,19]) (l2:=[]) r4 acv.2 av ae aoR (λβ5 a5 r5=> ?_);exact hQ a5 r5.p r5.I (Sb r5 aoV)
def apd(bE:a.tmps.size=44)(hd:a.defers=[])(h:a.tmps.getD 27 undef=.bool false)(h2:a.tmps.getD 32 undef=.bool false)(hQ:∀a':Act,a'.tmps.size=44->a'.defers=[]->a'.tmps.getD 42 undef=.bool true->Q .normal a' w):
  wpOpsIn Fence.wide k prog (cD 5) Q [10,11,12,13,14,15,16,17,18,19] a w:=by
 have r0:wi (uu [(27,.p false),(32,.p false)]) (λ_=>sP) a w:=R9 bE hd (λt=>by
  unfold fy;split
  ·rename_i ht;rw[iZ ht];exact h
  ·unfold fy;split
   ·rename_i ht;rw[iZ ht];exact h2
   ·trivial)
 refine Df (l1:=[10,11,12,13,14,15,16]) r0 rfl av ae aoS (λβ3 a3 r3=> ?_);refine R_ r3 uv.1 acx uv.2.2.1 uv.2.2.2 Ku acw.1 (λa4 r4=> ?_);refine Df (l1:=[18,19]) (l2:=[]) r4 acw.2 av ae aoT (λβ5 a5 r5=> ?_);exact hQ a5 r5.p r5.I (Sb r5 aoW)
def ape(bE:a.tmps.size=44)(hd:a.defers=[])(h:a.tmps.getD 35 undef=.bool false)(h2:a.tmps.getD 40 undef=.bool false)(hQ:∀a':Act,a'.tmps.size=44->a'.defers=[]->a'.tmps.getD 42 undef=.bool true->Q .normal a' w):
  wpOpsIn Fence.wide k prog (cD 5) Q [18,19] a w:=by
 have r0:wi (uu [(35,.p false),(40,.p false)]) (λ_=>sP) a w:=R9 bE hd (λt=>by
  unfold fy;split
  ·rename_i ht;rw[iZ ht];exact h
  ·unfold fy;split
   ·rename_i ht;rw[iZ ht];exact h2
   ·trivial)
 refine Df (l1:=[18,19]) (l2:=[]) r0 rfl av ae aoU (λβ5 a5 r5=> ?_);exact hQ a5 r5.p r5.I (Sb r5 aoX)
end
section
variable(O0:Nat->Prop)(par:aa)(blk:List aa)(i:Nat)
structure gZ(W0:World)(R0 R1:Nat->Prop)(s:bu)(β:Nat->AH.bd)(a0 a:Act)(w:World):Prop where
 c:bA fF (cS O0 R1) 44 0 ⟨false,[]⟩ s β a w
 m:s.a=(iC par blk i).a
 l:kI (cS O0 R0) W0 (cS O0 R1) w
 n:∀j,cQ s.a β j->W0.heap.size<=(β j).a
 f:nN O0 R1 w
 g:gh sO a0 a
end
section
variable{O0:Nat->Prop}{par:aa}{blk:List aa}{i:Nat}{W0:World}{R0 R1 R2:Nat->Prop}{s s':bu}{β:Nat->AH.bd}{a0 a:Act}{w w':World}{k:Nat}{Q:Exit->Act->World->Prop}{l2:List Nat}
def gZ.I(md:gZ O0 par blk i W0 R0 R1 s β a0 a w)(ec:∀j,1280<=j->(iC par blk i).a j=.c)(cP:l1.Nodup)(hf:Ks sO (cD 5) l1=true)(he:pB l1 s=some (.a s'))(ho:s'.a=(iC par blk i).a)
  (hQ:∀β' a',gZ O0 par blk i W0 R0 R1 s' β' a0 a' w->wpOpsIn Fence.wide k prog (cD 5) Q l2 a' w):wpOpsIn Fence.wide k prog (cD 5) Q (l1++l2) a w:=by
 refine FL (E:=fF) (base:=1280) aW F1 wh l1 s β a md.c cP (Kt hf) (λj _ i' hi=>by rw[md.m];exact ec i' (by unfold gN at hi;omega)) he (λβ' a' r' st' p'=> ?_);refine hQ β' a' ⟨r',ho,md.l,λj mj=> ?_,md.f,md.g.I p'⟩;rcases st'.c j mj with⟨j',mj',e⟩ |h
 ·rw[<-e];exact md.n j' mj'
 ·exact eb md.l.a h
def gZ.apf(md:gZ O0 par blk i W0 R0 R1 s β a0 a w)(hd:d<44)(hp:sO.contains d=false)(hv:ax aJ w (AH.aY (cS O0 R1) s.a β) v (bW aJ s.a β) x):gZ O0 par blk i W0 R0 R1 {s with b:=bO s.b d v} β a0 (a.put (some d) x) w:=by
 refine⟨md.c.anN hd hv,md.m,md.l,md.n,md.f,md.g.I ⟨fS _ _ _,λt ht=> ?_⟩⟩;have bL:d≠t:=λe=>by subst e;rw[List.contains_iff_mem.2 ht]at hp;cases hp
 show(a.tmps.setIfInBounds d x).getD t undef=_;simp only[fh];rw[EB bL]
def gZ.U(md:gZ O0 par blk i W0 R0 R1 s β a0 a w)(h:kI (cS O0 R1) w (cS O0 R2) w'):gZ O0 par blk i W0 R0 R2 s β a0 a w':=by
 refine⟨md.c.abK h (λj ha hn hz=> ?_),md.m,Kp md.l h,md.n,md.f.D _ h,md.g⟩;cases jM:(s.a j).I with
 |true=>exact md.c.f.f j ⟨jM,hn⟩ hz
 |false=>exact md.c.f.p j ha jM hn (.inl hz)
def gZ.V(hp:wg par)(md:gZ O0 par blk i W0 R0 R1 s β a0 a w)(ht:s.b t=.e 960 0):ax aJ w (cS O0 R1) (.A (par::((dm (aJ 97) (blk.getD i .m)).V++ [.d 97 blk,.c .i64 i]))) bh (a.tmps.getD t undef):=by
 have hr:=md.c.m t;rw[ht]at hr;have h1:=CB (P:=prog) (T:=aJ) (G:=cO) (Z:=cS O0 R1) (h:=s.a) (β:=β) (w:=w) (view:=s.a) (O':=cS O0 R1) (S:=[960]) aW md.c.f (λi=>.inr rfl) (λb hb=>.inl hb) (λj hj j' hj'=>by
  rw[EA]at hj;subst hj;rw[md.m,aoM hp]at hj';cases hj') (λj _ ha hn hz=>by
   cases jM:(s.a j).I with
   |true=>exact md.c.f.f j ⟨jM,hn⟩ hz
   |false=>exact md.c.f.p j ha jM hn (.inl hz)) zO (.e 960 0) _ bh (λj hj=>by simpa[aa.dP] using hj) hr
 rw[md.m,aoN hp]at h1;exact h1
def gZ.acy(md:gZ O0 par blk i W0 R0 R1 s β a0 a w)(ht:s.b t=v)(hv:v.gx=true):ax aJ w (cS O0 R1) v bh (a.tmps.getD t undef):=by have hr:=md.c.m t;rw[ht]at hr;exact ax.D (cz.D (λb hb=>.inl hb)) _ _ _ _ (λ_ _ h=>h) (q9 hr hv)
end
def apg:(f127.name== "runtime.NumGoroutine")=false:=ae
def F7{fn:Func}(hf:P.funcs[f]? =some fn)(hn:(fn.name== "runtime.NumGoroutine")=false)(hb:fn.body=some c):∀args w,(callFunc f args).run P w=.ok (.enter f args) w:=λargs w=>by
 have h1:fn.name≠ "runtime.NumGoroutine" :=by simpa using hn
 simp[callFunc,hf,h1,hb]
def Sc:∀args w,(callFunc 127 args).run prog w=.ok (.enter 127 args) w:=F7 func127 apg ach
def wj(h:d<a.tmps.size)(x):(a.put (some d) x).tmps.getD d undef=x:=by rw[FB a (λt ht=>by cases ht;exact h),if_pos rfl]
def AG(h:d<a.tmps.size)(bL:d≠t)(x):(a.put (some d) x).tmps.getD t undef=a.tmps.getD t undef:=by rw[FB a (λt ht=>by cases ht;exact h),if_neg (λe=>bL (by injection e))]
section
variable{O0:Nat->Prop}{par:aa}{blk:List aa}{i:Nat}{W0:World}{R0 R1 R2:Nat->Prop}{s s':bu}{β:Nat->AH.bd}{a0 a:Act}{w w':World}{k:Nat}{Q:Exit->Act->World->Prop}{l2:List Nat}
def gZ.aph(md:gZ O0 par blk i W0 R0 R1 s β a0 a w)(ec:∀j,1280<=j->(iC par blk i).a j=.c)(cP:l1.Nodup)(d:Nat)(hf:Ks (d::sO) (cD 5) l1=true)(he:pB l1 s=some (.a s'))(ho:s'.a=(iC par blk i).a)
  (hQ:∀β' a',gZ O0 par blk i W0 R0 R1 s' β' a0 a' w->a'.tmps.getD d undef=a.tmps.getD d undef->wpOpsIn Fence.wide k prog (cD 5) Q l2 a' w):wpOpsIn Fence.wide k prog (cD 5) Q (l1++l2) a w:=by
 refine FL (E:=fF) (base:=1280) aW F1 wh l1 s β a md.c cP (Kt hf) (λj _ i' hi=>by rw[md.m];exact ec i' (by unfold gN at hi;omega)) he (λβ' a' r' st' p'=> ?_);refine hQ β' a' ⟨r',ho,md.l,λj mj=> ?_,md.f,md.g.I ⟨p'.g,λt ht=>p'.f t (by simp[ht])⟩⟩ (p'.f d aB);rcases st'.c j mj with⟨j',mj',e⟩ |h
 ·rw[<-e];exact md.n j' mj'
 ·exact eb md.l.a h
end
section
variable{l:Nat}{items:List aa}{O0:Nat->Prop}{J:Nat->(Nat->Prop)->World->Prop}{Jx:World->Prop}{B:Nat}
variable{par:aa}(hp:wg par){blk:List aa}{i:Nat}{W0:World}{R0 R1 R2:Nat->Prop}{β:Nat->AH.bd}{a0 a:Act}{w:World}{k kk n:Nat}{Q:Exit->Act->World->Prop}{P:aa}{La Lb:List aa}{s s5 s7 s3 s1:bu}
def ql(s:bu)(d:Nat)(v:aa):bu:={s with b:=bO s.b d v}
def gZ.D(md:gZ O0 par blk i W0 R0 R1 s β a0 a w)(hd:d<44)(hp:sO.contains d=false)(hv:ax aJ w (AH.aY (cS O0 R1) s.a β) v (bW aJ s.a β) x):gZ O0 par blk i W0 R0 R1 (ql s d v) β a0 (a.put (some d) x) w:=md.apf hd hp hv
def gZ.Sd(md:gZ O0 par blk i W0 R0 R1 s β a0 a w){b:Bool}(h:s.b t=.p b):a.tmps.getD t undef=.bool b:=by have:=md.c.m t;rw[h]at this;exact this
include hp in
def api(ec:∀j,1280<=j->(iC par blk i).a j=.c)(hP:P=.A (par::((dm (aJ 97) (blk.getD i .m)).V++ [.d 97 blk,.c .i64 i])))(EX:wg P)
  (hy:a0.tmps.getD 2 undef=.func (.yield l) #[] #[])(md:gZ O0 par blk i W0 R0 R1 s β a0 a w){l7:List aa}
  (e5:pB [10,11,12,13,14,15] s=some (.a s5))(o5:s5.a=(iC par blk i).a)(s35:s5.b 35=.p false)(s36:s5.b 36=.e 960 0)(s38:s5.b 38=.d 97 l7)
  (e7:pB [18,19] (ql (ql s5 39 .m) 40 (.p true))=some (.a s7))(o7:s7.a=(iC par blk i).a)(s42:s7.b 42=.p false)
  (hJ:J kk R1 w)(ih:Kr l items O0 J Jx n)(hB:jm n P l7 0 l7=some Lb)(YU:∀j v,Lb[j]? =some v->items[kk+j]? =some (.q [v]))
  (hT:∀(a':Act) w' R',gh sO a0 a'->a'.defers=[]->a'.tmps.getD 42 undef=.bool false->J (kk+Lb.length) R' w'->nN O0 R' w'->kI (cS O0 R0) W0 (cS O0 R') w'->Q .normal a' w')
  (hF:∀(a':Act) w',a'.tmps.size=44->a'.defers=[]->a'.tmps.getD 42 undef=.bool true->Jx w'->Q .normal a' w'):
  wpOpsIn Fence.wide k prog (cD 5) Q [10,11,12,13,14,15,16,17,18,19] a w:=by
 refine md.I ec (l1:=[10,11,12,13,14,15]) (by decide) (by kernel_rfl) e5 o5 (λβ5 a5 md5=> ?_)
 refine JO Ko.1 Ko.2.1 ((FM md5.c wh Ko.2.2.2 Ku s35).2 rfl) ?_
 rw[Ko.2.2.1]
 have aLk:a5.eval (.tmp 2)=.func (.yield l) #[] #[]:=(md5.g.f 2 (by decide)).trans hy
 have tN:=md5.D (d:=39) (by decide) (by decide) (v:=.m) (x:=a5.eval (.tmp 2)) trivial
 have h39:(a5.put (some 39) (a5.eval (.tmp 2))).tmps.getD 39 undef=.func (.yield l) #[] #[]:=(wj (by rw[md5.c.p];decide) _).trans aLk
 obtain⟨b5,r8⟩:∃b5,b5=a5.put (some 39) (a5.eval (.tmp 2)):=⟨_,rfl⟩
 rw[<-r8]at tN h39⊢
 have u35:(ql s5 39 .m).b 35=.p false:=s35
 have u36:(ql s5 39 .m).b 36=.e 960 0:=s36
 have u38:(ql s5 39 .m).b 38=.d 97 l7:=s38
 have aj5:=tN.V hp u36
 rw[<-hP]at aj5
 have aLl:=tN.acy u38 rfl
 have tO:=ih P l7 Lb kk R1 w _ _ (k-1) hB EX YU hJ tN.f aj5 aLl
 have cN:(#[Operand.tmp 36,.tmp 38,.tmp 39].map b5.eval)= #[b5.tmps.getD 36 undef,b5.tmps.getD 38 undef,.func (.yield l) #[] #[]]:=by
  rw[<-h39]
  simp[Act.eval]
 rw[<-cN]at tO
 refine CQ uv.1 uv.2.1 rfl ((FM tN.c wh uv.2.2.2 Ku u35).2 rfl) Sc tO (λe w3 he=> ?_)
 have h35:=tN.Sd u35
 rw[uv.2.2.1]
 rcases he with⟨rfl,R3,aLm,aLn⟩ | ⟨rfl,tP⟩
 ·refine⟨_,rfl,?_⟩
  have md6:=(tN.U aLn).D (d:=40) (by decide) (by decide) (v:=.p true) (x:=.bool true) rfl
  refine md6.I ec (l1:=[18,19]) (l2:=[]) (by decide) (by kernel_rfl) e7 o7 (λβ7 a7 md7=> ?_)
  exact hT a7 w3 R3 md7.g md7.c.I (md7.Sd s42) aLm md7.f md7.l
 ·exact⟨_,rfl,ape (by rw[fS];exact tN.c.p) (by rw[jT];exact tN.c.I) ((AG (by rw[tN.c.p];decide) (by decide) _).trans h35) (wj (by rw[tN.c.p];decide) _) (λa' q1 q2 q3=>hF a' w3 q1 q2 q3 tP)⟩
include hp in
def apj(ec:∀j,1280<=j->(iC par blk i).a j=.c)(hP:P=.A (par::((dm (aJ 97) (blk.getD i .m)).V++ [.d 97 blk,.c .i64 i])))(EX:wg P)
  (hy:a0.tmps.getD 2 undef=.func (.yield l) #[] #[])(md:gZ O0 par blk i W0 R0 R1 s β a0 a w){l6:List aa}
  (e3:pB [3,4,5,6,7] s=some (.a s3))(o3:s3.a=(iC par blk i).a)(s27:s3.b 27=.p false)(s28:s3.b 28=.e 960 0)(s30:s3.b 30=.d 97 l6)
  (hJ:J kk R1 w)(ih:Kr l items O0 J Jx n)(hA:jm n P l6 0 l6=some La)(YV:∀j v,La[j]? =some v->items[kk+j]? =some (.q [v]))
  (hK:∀β4 a4 w4 R4,gZ O0 par blk i W0 R0 R4 (ql (ql s3 31 .m) 32 (.p true)) β4 a0 a4 w4->J (kk+La.length) R4 w4->wpOpsIn Fence.wide k prog (cD 5) Q [10,11,12,13,14,15,16,17,18,19] a4 w4)
  (hF:∀(a':Act) w',a'.tmps.size=44->a'.defers=[]->a'.tmps.getD 42 undef=.bool true->Jx w'->Q .normal a' w'):
  wpOpsIn Fence.wide k prog (cD 5) Q [3,4,5,6,7,8,9,10,11,12,13,14,15,16,17,18,19] a w:=by
 refine md.I ec (l1:=[3,4,5,6,7]) (by decide) (by kernel_rfl) e3 o3 (λβ3 a3 md3=> ?_)
 refine JO Kn.1 Kn.2.1 ((FM md3.c wh Kn.2.2.2 Sa s27).2 rfl) ?_
 rw[Kn.2.2.1]
 have h2':a3.eval (.tmp 2)=.func (.yield l) #[] #[]:=(md3.g.f 2 (by decide)).trans hy
 have tQ:=md3.D (d:=31) (by decide) (by decide) (v:=.m) (x:=a3.eval (.tmp 2)) trivial
 have h31:(a3.put (some 31) (a3.eval (.tmp 2))).tmps.getD 31 undef=.func (.yield l) #[] #[]:=(wj (by rw[md3.c.p];decide) _).trans h2'
 obtain⟨b3,vA⟩:∃b3,b3=a3.put (some 31) (a3.eval (.tmp 2)):=⟨_,rfl⟩
 rw[<-vA]at tQ h31⊢
 have u27:(ql s3 31 .m).b 27=.p false:=s27
 have u28:(ql s3 31 .m).b 28=.e 960 0:=s28
 have u30:(ql s3 31 .m).b 30=.d 97 l6:=s30
 have aj6:=tQ.V hp u28
 rw[<-hP]at aj6
 have aLo:=tQ.acy u30 rfl
 have tO:=ih P l6 La kk R1 w _ _ (k-1) hA EX YV hJ tQ.f aj6 aLo
 have cN:(#[Operand.tmp 28,.tmp 30,.tmp 31].map b3.eval)= #[b3.tmps.getD 28 undef,b3.tmps.getD 30 undef,.func (.yield l) #[] #[]]:=by
  rw[<-h31]
  simp[Act.eval]
 rw[<-cN]at tO
 refine CQ AF.1 AF.2.1 rfl ((FM tQ.c wh AF.2.2.2 Sa u27).2 rfl) Sc tO (λe w2 he=> ?_)
 have h27:=tQ.Sd u27
 rw[AF.2.2.1]
 rcases he with⟨rfl,R2,aLp,pf⟩ | ⟨rfl,tP⟩
 ·exact⟨_,rfl,hK _ _ w2 R2 ((tQ.U pf).D (d:=32) (by decide) (by decide) (v:=.p true) (x:=.bool true) rfl) aLp⟩
 ·exact⟨_,rfl,apd (by rw[fS];exact tQ.c.p) (by rw[jT];exact tQ.c.I) ((AG (by rw[tQ.c.p];decide) (by decide) _).trans h27) (wj (by rw[tQ.c.p];decide) _) (λa' q1 q2 q3=>hF a' w2 q1 q2 q3 tP)⟩
include hp in
def apk(hyp:Kq l items O0 J Jx B)(ec:∀j,1280<=j->(iC par blk i).a j=.c)(hP:P=.A (par::((dm (aJ 97) (blk.getD i .m)).V++ [.d 97 blk,.c .i64 i])))
  (hy:a0.tmps.getD 2 undef=.func (.yield l) #[] #[])(md:gZ O0 par blk i W0 R0 R1 s β a0 a w)
  (e1:pB [1] (ql s 23 .m)=some (.a s1))(o1:s1.a=(iC par blk i).a)(s24:s1.b 24=.e 960 0)
  (hJ:J kk R1 w)(jP:items[kk]? =some (.q [P]))
  (hK:∀β4 a4 w4 R4,gZ O0 par blk i W0 R0 R4 (ql s1 25 (.p true)) β4 a0 a4 w4->J (kk+1) R4 w4->wpOpsIn Fence.wide k prog (cD 5) Q [3,4,5,6,7,8,9,10,11,12,13,14,15,16,17,18,19] a4 w4)
  (hF:∀(a':Act) w',a'.tmps.size=44->a'.defers=[]->a'.tmps.getD 42 undef=.bool true->Jx w'->Q .normal a' w'):
  wpOpsIn Fence.wide k prog (cD 5) Q [0,1,2,3,4,5,6,7,8,9,10,11,12,13,14,15,16,17,18,19] a w:=by
 refine JO Kl.1 Kl.2.1 (jV Kl.2.2.2) ?_
 rw[Kl.2.2.1]
 have h2:a.eval (.tmp 2)=.func (.yield l) #[] #[]:=(md.g.f 2 (by decide)).trans hy
 have md0:=md.D (d:=23) (by decide) (by decide) (v:=.m) (x:=a.eval (.tmp 2)) trivial
 have h23:(a.put (some 23) (a.eval (.tmp 2))).tmps.getD 23 undef=.func (.yield l) #[] #[]:=(wj (by rw[md.c.p];decide) _).trans h2
 refine md0.aph ec (l1:=[1]) (by decide) 23 (by kernel_rfl) e1 o1 (λβ1 a1 md1 h23'=> ?_)
 rw[h23]at h23'
 have gT:=md1.V hp s24
 rw[<-hP]at gT
 have tO:=hyp.c (k-1) kk R1 w [P] [a1.tmps.getD 24 undef] jP hJ ⟨_,[],rfl,gT,rfl⟩
 have cN:(#[Operand.tmp 24].map a1.eval)=[a1.tmps.getD 24 undef].toArray:=by simp[Act.eval]
 rw[<-cN]at tO
 refine anM Km.1 Km.2.1 rfl (jV Km.2.2.2) h23' tO (λe w1 he=> ?_)
 rw[Km.2.2.1]
 rcases he with⟨rfl,R',aLq,jf⟩ | ⟨rfl,tP⟩
 ·exact⟨_,rfl,hK _ _ w1 R' ((md1.U (apa _ md1.f jf)).D (d:=25) (by decide) (by decide) (v:=.p true) (x:=.bool true) rfl) aLq⟩
 ·exact⟨_,rfl,apc (by rw[fS];exact md1.c.p) (by rw[jT];exact md1.c.I) (wj (by rw[md1.c.p];decide) _) (λa' q1 q2 q3=>hF a' w1 q1 q2 q3 tP)⟩
include hp in
def apl(hyp:Kq l items O0 J Jx B)(ec:∀j,1280<=j->(iC par blk i).a j=.c)
  (md:gZ O0 par blk i W0 R0 R1 (iC par blk i) β a0 a w)(hy:a0.tmps.getD 2 undef=.func (.yield l) #[] #[])(hJ:J kk R1 w)(hP:P=.A (par::((dm (aJ 97) (blk.getD i .m)).V++ [.d 97 blk,.c .i64 i])))
  (jP:items[kk]? =some (.q [P]))(ih:Kr l items O0 J Jx n)(hA:jm n P ((blk.getD i .m).D 6).U 0 ((blk.getD i .m).D 6).U=some La)(hB:jm n P ((blk.getD i .m).D 7).U 0 ((blk.getD i .m).D 7).U=some Lb)
  (YV:∀j v,La[j]? =some v->items[kk+1+j]? =some (.q [v]))(YU:∀j v,Lb[j]? =some v->items[kk+1+La.length+j]? =some (.q [v]))
  (hT:∀(a':Act) w' R',gh sO a0 a'->a'.defers=[]->a'.tmps.getD 42 undef=.bool false->J (kk+1+La.length+Lb.length) R' w'->nN O0 R' w'->kI (cS O0 R0) W0 (cS O0 R') w'->Q .normal a' w')
  (hF:∀(a':Act) w',a'.tmps.size=44->a'.defers=[]->a'.tmps.getD 42 undef=.bool true->Jx w'->Q .normal a' w'):
  wpOpsIn Fence.wide k prog (cD 5) Q (List.range (cD 5).size) a w:=by
 rw[ao8]
 have EX:wg P:=.inr ⟨_,hP⟩
 refine apk hp hyp ec hP hy md (aow hp blk i) (aoB hp blk i) (aoE hp blk i) hJ jP (λβ4 a4 w4 R4 md4 YW=> ?_) hF
 refine apj hp ec hP EX hy md4 (aox hp blk i) (aoC hp blk i) (aoF hp blk i) (aoG hp blk i) (aoH hp blk i) YW ih hA YV (λβ5 a5 w5 R5 md5 NT=> ?_) hF
 exact api hp ec hP EX hy md5 (aoy hp blk i) (aoD hp blk i) (aoI hp blk i) (aoJ hp blk i) (aoK hp blk i) (aoz hp blk i) (aoA hp blk i) (aoL hp blk i) NT ih hB YU hT hF
end
section
variable{P:Program}{w:World}{a:Act}{ops:Array Oper}
def Se{x}(hj:ops[j]? =some o)(ho:o.op=.assign x)(hw:jH ops o a)
  (h:wpOpsIn Fence.wide k P ops Q l (a.put o.dst (a.eval x)) w):wpOpsIn Fence.wide k P ops Q (j::l) a w:=by
 unfold wpOpsIn;rw[hj];simp only;unfold jH at hw;rw[if_pos hw];refine⟨λf _=>trivial,?_⟩;have bm:(o.semAt Fence.wide.round a.eval).run P w=.ok (.value (a.eval x)) w:=by show(execOp a.eval o).run P w=_;simp[execOp,ho]
 rw[bm];exact h
end
def rz(k:Nat):Oper:=((cD k)[0]?).getD default
def Kv:(cD 0)[0]? =some (rz 0)/\(rz 0).op=.assign (.const (.bool false))/\(rz 0).dst=some 6/\(rz 0).guard=none:=⟨ae,ae,ae,ae⟩
def Kw:(cD 6)[0]? =some (rz 6)/\(rz 6).op=.assign (.const (.bool false))/\(rz 6).dst=some 6/\(rz 6).guard=none:=⟨ae,ae,ae,ae⟩
def Kx:(cD 8)[0]? =some (rz 8)/\(rz 8).op=.assign (.const (.bool true))/\(rz 8).dst=some 6/\(rz 8).guard=none:=⟨ae,ae,ae,ae⟩
def apm:f127.results= #[.tmp 6]:=ae
def apn:f127.ntmps=44:=ae
def Sf(blk:List aa):List (Nat×aa):=[(1,.d 97 blk)]
def Ky(blk:List aa):bu:=pA (c8 fF false gb (cD 1).toList 0 [0,1,2] ⟨fy .m (Sf blk),λ_=>.c,0⟩).D
def apo(blk):(c8 fF false gb (cD 1).toList 0 [0,1,2] ⟨fy .m (Sf blk),λ_=>.c,0⟩).D=some (.a (Ky blk)):=ae
def apq(blk):(Ky blk).b 10=.d 97 blk/\(Ky blk).b 11=.c .i64 blk.length/\(Ky blk).b 12=.c .i64 (0:Nat):=⟨ae,ae,ae⟩
def acz(i n:Nat):List (Nat×aa):=[(11,.c .i64 n),(12,.c .i64 i)]
def acA(i n:Nat):bu:=pA (c8 fF false gb (cD 2).toList 0 [0] ⟨fy .m (acz i n),λ_=>.c,0⟩).D
def apr(i n):(c8 fF false gb (cD 2).toList 0 [0] ⟨fy .m (acz i n),λ_=>.c,0⟩).D=some (.a (acA i n)):=ae
def aps(i n:Nat):(acA i n).b 13=.p (decide ((i:Int)<(n:Int))):=ae
def acB(par:aa)(blk:List aa)(i:Nat):List (Nat×aa):=[(0,par),(1,.d 97 blk),(10,.d 97 blk),(11,.c .i64 blk.length),(12,.c .i64 i)]
def Sg(i:Nat):List (Nat×aa):=[(12,.c .i64 i)]
def acC(i:Nat):bu:=pA (c8 fF false gb (cD 7).toList 0 [0,1] ⟨fy .m (Sg i),λ_=>.c,0⟩).D
def apt(i):(c8 fF false gb (cD 7).toList 0 [0,1] ⟨fy .m (Sg i),λ_=>.c,0⟩).D=some (.a (acC i)):=ae
def apu(i:Nat):(acC i).b 12=.c .i64 (IntKind.wrap .i64 ((i:Int)+1)):=ae
def apv(h:i<100000):IntKind.wrap .i64 ((i:Int)+1)=((i+1:Nat):Int):=by have h1:=AH.anR .i64 (i+1) (Ey (by show i+1+1<=9223372036854775808;omega));exact h1
def acD(ts:List Nat)(ops:Array Oper)(l:List Nat):Bool:=l.all λj=>match ops[j]? with |some o=>nH ts o |none=>false
def acE(h:acD ts ops l=true):∀j∈l,∃o,ops[j]? =some o/\nH ts o=true:=by
 intro j hj;have h1:=List.all_eq_true.1 h j hj;cases ho:ops[j]? with
 |none=>rw[ho]at h1;cases h1
 |some o=>rw[ho]at h1;exact⟨o,rfl,h1⟩
section
variable{O0:Nat->Prop}{B:Nat}{R R1:Nat->Prop}{a:Act}{w w':World}{k:Nat}{Q:Exit->Act->World->Prop}{l2:List Nat}{s':bu}{β':Nat->AH.bd}
structure apw(O0:Nat->Prop)(B:Nat)(R:Nat->Prop)(w:World)(s':bu)(β':Nat->AH.bd)(w':World):Prop where
 a:kI (cS O0 R) w (cS O0 R) w'
 b:cc B w w'
 c:∀j,cQ s'.a β' j->w.heap.size<=(β' j).a
def Kz(hh:nN O0 R w){h0:Nat->aj}(ec:h0=λ_=>.c)(st:dF h0 β w s'.a β' w'):apw O0 B R w s' β' w':=by
 subst ec;have nm:∀i,¬cQ (λ_=>aj.c) β i:=λi mi=>by have:=mi.1;simp[aj.I]at this
 exact⟨⟨st.d,λb hb _=>st.f b hb (λi mi=>absurd mi (nm i)),λb h=>.inl h,λb h=>dJ (hh.a b h) st.d⟩,
  ⟨st.g,st.l,st.n,st.d,λb hb=>.inl (st.f b hb (λi mi=>absurd mi (nm i)))⟩,
  λj mj=>by
   rcases st.c j mj with⟨i,mi,_⟩ |h
   ·exact absurd mi (nm i)
   ·exact h⟩
def KA{lk:List Nat}{ls:List (Nat×aa)}(hd:jU 44 ops=true)(hf:acD ts ops lk=true)(cP:lk.Nodup)(he:(c8 fF false gb ops.toList 0 lk ⟨fy .m ls,λ_=>.c,0⟩).D=some (.a s'))
  (hh:nN O0 R w)(bE:a.tmps.size=44)(tR:a.defers=[])(hs:∀t,ax aJ w (cS O0 R) (fy .m ls t) bh (a.tmps.getD t undef))
  (hQ:∀β' a' w',bA fF (cS O0 R) 44 0 ⟨false,[]⟩ s' β' a' w'->dF (λ_=>.c) (λ_=>sP) w s'.a β' w'->(∀i,(∀j∈lk,¬gN 0 j i)->s'.a i=.c)->gh ts a a'->wpOpsIn Fence.wide k prog ops Q l2 a' w'):
  wpOpsIn Fence.wide k prog ops Q (lk++l2) a w:=by
 have r0:bA fF (cS O0 R) 44 0 ⟨false,[]⟩ ⟨fy .m ls,λ_=>.c,0⟩ (λ_=>sP) a w:=bA.V (E:=fF) bE tR hh.a hh.c hs;exact PI (E:=fF) (base:=0) aW F1 hd lk _ _ a w r0 cP (acE hf) (λj _ i _=>rfl) he (λβ' a' w' r' st' d' p'=>hQ β' a' w' r' st' (λi hi=>d' i rfl hi) p')
def apx{t1:Nat}{v1}{t2:Nat}{v2}(h1:ax aJ w (cS O0 R) v1 bh (a.tmps.getD t1 undef))(h2:ax aJ w (cS O0 R) v2 bh (a.tmps.getD t2 undef)):∀t,ax aJ w (cS O0 R) (fy .m [(t1,v1),(t2,v2)] t) bh (a.tmps.getD t undef):=by
 intro t;unfold fy;split
 ·rename_i ht;rw[iZ ht];exact h1
 ·unfold fy;split
  ·rename_i ht;rw[iZ ht];exact h2
  ·trivial
def KB{l:List (Nat×aa)}(h:∀p∈l,ax aJ w (cS O0 R) p.2 bh (a.tmps.getD p.1 undef)):∀t,ax aJ w (cS O0 R) (fy .m l t) bh (a.tmps.getD t undef):=by
 intro t;induction l with
 |nil=>exact trivial
 |cons p l ih=>
  unfold fy;split
  ·rename_i ht;rw[iZ ht];exact h p aB
  ·exact ih (λq hq=>h q (by simp[hq]))
end
def aj7.acF{w O}{t b:Nat}:∀{vs:List aa}{o:Nat},bN aJ w O vs t b o->∀v∈vs,dm (aJ t) v=v
 | [],_,_,v,hv=>by cases hv
 |x::vs,o,h,v,hv=>by
  rcases List.mem_cons.1 hv with rfl |hv
  ·exact h.1.2
  ·exact aj7.acF h.2.2 v hv
def apy(h:ax aJ w O (.d 97 blk) bh x):∀v∈blk,dm (aJ 97) v=v:=by
 obtain⟨a,cap,_,_,h2⟩:=h;rcases h2 with rfl | ⟨b,o,_,_,_,h3⟩
 ·intro v hv;cases hv
 ·exact aj7.acF h3
section
variable{l:Nat}{items:List aa}{O0:Nat->Prop}{J:Nat->(Nat->Prop)->World->Prop}{Jx:World->Prop}{B:Nat}
structure Dg(l:Nat)(O0:Nat->Prop)(J:Nat->(Nat->Prop)->World->Prop)(par:aa)(blk:List aa)(X:World)(R:Nat->Prop)(i kk:Nat)(R1:Nat->Prop)(a:Act)(w:World):Prop where
 b:a.tmps.size=44
 e:a.defers=[]
 j:ax aJ w (cS O0 R1) par bh (a.tmps.getD 0 undef)
 f:ax aJ w (cS O0 R1) (.d 97 blk) bh (a.tmps.getD 1 undef)
 k:a.tmps.getD 2 undef=.func (.yield l) #[] #[]
 m:ax aJ w (cS O0 R1) (.d 97 blk) bh (a.tmps.getD 10 undef)
 g:a.tmps.getD 11 undef=.int .i64 blk.length
 d:a.tmps.getD 12 undef=.int .i64 i
 c:nN O0 R1 w
 n:kI (cS O0 R) X (cS O0 R1) w
 o:J kk R1 w
def Dh{a':Act}(p:gh ts a a')(h:ts.contains t=true):a'.tmps.getD t undef=a.tmps.getD t undef:=p.f t (by simpa using h)
def apz(hq:∀k R X Y,J k R X->cc B X Y->J k R Y)(hp:wg par){kk:Nat}
  (hd:Dg l O0 J par blk X R i kk R1 a w)(hi:i<blk.length)
  (hK:∀β4 a4 w4,gZ O0 par blk i w R1 R1 (iC par blk i) β4 a a4 w4->(∀j,1280<=j->(iC par blk i).a j=.c)->J kk R1 w4->c.wpIn Fence.wide k prog Q a4 w4):
  (Code.seq (.region 3 (cD 3) false) (.seq (.region 4 (cD 4) false) c)).wpIn Fence.wide k prog Q a w:=by
 refine b8 (cT ?_);rw[ao6];have e3':(c8 fF false gb (cD 3).toList 0 [0,1,2,3,4,5] ⟨fy .m (acB par blk i),λ_=>.c,0⟩).D=some (.a (F2 par blk i)):=by
  have h1:=aou par blk i;have h2:(decide ((0:Int)<=i) &&decide ((i:Int)<(blk.length:Int)))=true:=by simp;omega
  rw[h2]at h1;show(c8 fF false gb (cD 3).toList 0 [0,1,2,3,4,5] (R6 par blk i)).D=_;rw[h1];rfl
 refine KA (ts:=sO) (lk:=[0,1,2,3,4,5]) (l2:=[]) ao0 ae av e3' hd.c hd.b hd.e (KB (λp hp'=> ?_)) (λβ3 a3 w3 r3 st3 dd3 p3=> ?_)
 ·simp only[acB,jc,oZ,og]at hp';rcases hp' with rfl |rfl |rfl |rfl |rfl
  ·exact hd.j
  ·exact hd.f
  ·exact hd.m
  ·exact hd.g
  ·exact hd.d
 show(Code.seq (.region 4 (cD 4) false) c).wpIn Fence.wide k prog Q a3 w3;refine b8 (cT ?_);rw[ao7];have e4':(c8 fF false gb (cD 4).toList 640 [0,1,2,3,4,5,6] (F2 par blk i)).D=some (.a (iC par blk i)):=by rw[aov hp blk i];rfl
 refine PI (E:=fF) (base:=640) (ts:=sO) (l2:=[]) aW F1 ao1 [0,1,2,3,4,5,6] _ β3 a3 w3 r3 av (acE ae) (λj _ i' hi'=>dd3 i' (λj' hj' hc=> ?_)) e4' (λβ4 a4 w4 r4 st4 dd4 p4=> ?_)
 ·simp only[jc,oZ,og]at hj';unfold gN at hi' hc;omega
 have sn:=Kz (B:=B) (s':=iC par blk i) hd.c rfl (st3.I st4);show c.wpIn Fence.wide k prog Q a4 w4;refine hK β4 a4 w4 ⟨r4,rfl,sn.a,sn.c,hd.c.D _ sn.a,p3.I p4⟩ (λj hj=>dd4 j (dd3 j (λj' hj' hc=> ?_)) (λj' hj' hc=> ?_)) (hq _ _ _ _ hd.o sn.b)
 ·simp only[jc,oZ,og]at hj';unfold gN at hc;omega
 ·simp only[jc,oZ,og]at hj';unfold gN at hc;omega
end
section
variable{l:Nat}{items:List aa}{O0:Nat->Prop}{J:Nat->(Nat->Prop)->World->Prop}{Jx:World->Prop}{B:Nat}
def F8(r:bA fF (cS O0 R) 44 0 ⟨false,[]⟩ s β a w)(ht:s.b t=v)(hv:v.gx=true):ax aJ w (cS O0 R) v bh (a.tmps.getD t undef):=by have hr:=r.m t;rw[ht]at hr;exact ax.D (cz.D (λb hb=>.inl hb)) _ _ _ _ (λ_ _ h=>h) (q9 hr hv)
def Dg.D{kk kk':Nat}{R2}{a':Act}{w'}(hd:Dg l O0 J par blk X R i kk R1 a w)(p:gh sO a a')(tR:a'.defers=[])(he:kI (cS O0 R1) w (cS O0 R2) w')(hj:J kk' R2 w'):Dg l O0 J par blk X R i kk' R2 a' w' := {
 b:=p.g.trans hd.b
 e:=tR
 j:=by rw[Dh p av];exact ax.D he.D _ _ _ _ (λ_ _ h=>h) hd.j
 f:=by rw[Dh p av];exact ax.D he.D _ _ _ _ (λ_ _ h=>h) hd.f
 k:=by rw[Dh p av];exact hd.k
 m:=by rw[Dh p av];exact ax.D he.D _ _ _ _ (λ_ _ h=>h) hd.m
 g:=by rw[Dh p av];exact hd.g
 d:=by rw[Dh p av];exact hd.d
 c:=hd.c.D _ he
 n:=Kp hd.n he
 o:=hj }
def apA{N:Nat}{Lr}(hi:i<blk.length)(h:jm N par blk i (blk.drop i)=some Lr):∃n La Lb Lc,N=n+1/\
  jm n (.A (par::((blk.getD i .m).V++ [.d 97 blk,.c .i64 i]))) ((blk.getD i .m).D 6).U 0 ((blk.getD i .m).D 6).U=some La/\
  jm n (.A (par::((blk.getD i .m).V++ [.d 97 blk,.c .i64 i]))) ((blk.getD i .m).D 7).U 0 ((blk.getD i .m).D 7).U=some Lb/\
  jm n par blk (i+1) (blk.drop (i+1))=some Lc/\Lr=.A (par::((blk.getD i .m).V++ [.d 97 blk,.c .i64 i]))::(La++(Lb++Lc)):=by
 have hg:blk.getD i .m=blk[i]:=by rw[dD,cV hi];rfl
 rw[oY hi]at h;cases N with
 |zero=>simp[jm]at h
 |succ n=>
  unfold jm at h;split at h
  ·rename_i a b c h1 h2 h3;rw[hg];exact⟨n,a,b,c,rfl,h1,h2,h3,by injection h with h;exact h.symm⟩
  ·cases h
def apB(pv bv yv):∃a0:Act,a0={tmps:= #[pv,bv,yv]++Array.replicate (44- (#[pv,bv,yv]:Array Value).size) undef,defers:=[]}/\a0.tmps.size=44/\a0.defers=[]/\a0.tmps.getD 0 undef=pv/\a0.tmps.getD 1 undef=bv/\a0.tmps.getD 2 undef=yv:=by refine⟨_,rfl,aB,rfl,?_,?_,?_⟩<;>simp[fh]
set_option maxHeartbeats 4000000 in
def apC(hyp:Kq l items O0 J Jx B):∀(N:Nat),N<=1000->Kr l items O0 J Jx N:=by
 intro N;induction N using Nat.strongRecOn with
 |ind N ih=>
 intro hN par blk L k0 R X pv bv m hL hp jP hJ hh aLr IF;refine BC func127 ach trivial ?_;rw[apn];obtain⟨a0,sa,vB,Cc,t00,t01,t02⟩:=apB pv bv (.func (.yield l) #[] #[]);rw[<-sa];clear sa;refine b8 (cT ?_);rw[ao3];refine Se Kv.1 Kv.2.1 (jV Kv.2.2.2) ?_;rw[Kv.2.2.1];obtain⟨a1,tS⟩:∃a1,a1=a0.put (some 6) (a0.eval (.const (.bool false))):=⟨_,rfl⟩
 rw[<-tS];have lt6:6<a0.tmps.size:=by rw[vB];decide
 have aj8:a1.tmps.size=44:=by rw[tS,fS];exact vB
 have aLs:a1.defers=[]:=by rw[tS,jT];exact Cc
 have t10:a1.tmps.getD 0 undef=pv:=by rw[tS,AG lt6 av];exact t00
 have t11:a1.tmps.getD 1 undef=bv:=by rw[tS,AG lt6 av];exact t01
 have t12:a1.tmps.getD 2 undef=.func (.yield l) #[] #[]:=by rw[tS,AG lt6 av];exact t02
 refine b8 (b8 (cT ?_));rw[ao4];refine KA (ts:=[0,1,2]) (lk:=[0,1,2]) (l2:=[]) aoY ae av (apo blk) hh aj8 aLs (KB (λp hp'=>by
  simp only[Sf,EA]at hp';subst hp';show ax aJ X (cS O0 R) (.d 97 blk) bh (a1.tmps.getD 1 undef);rw[t11];exact IF)) (λβ2 a2 w2 r2 st2 dd2 p2=> ?_)
 have sn2:=Kz (B:=B) hh rfl st2;have je:Dg l O0 J par blk X R 0 k0 R a2 w2:=by
  obtain⟨s10,s11,s12⟩:=apq blk;refine⟨p2.g.trans aj8,r2.I,?_,?_,?_,F8 r2 s10 rfl,F8 r2 s11 rfl,F8 r2 s12 rfl,hh.D _ sn2.a,sn2.a,hyp.a _ _ _ _ hJ sn2.b⟩
  ·rw[p2.f 0 aB,t10];exact ax.D sn2.a.D _ _ _ _ (λ_ _ h=>h) aLr
  ·rw[p2.f 1 aB,t11];exact ax.D sn2.a.D _ _ _ _ (λ_ _ h=>h) IF
  ·rw[p2.f 2 aB];exact t12
 refine lx (wpIn_loop (λa w=>∃i kk R1 Lr,i<=blk.length/\jm (N-i) par blk i (blk.drop i)=some Lr/\kk+Lr.length=k0+L.length/\(∀j v,Lr[j]? =some v->items[kk+j]? =some (.q [v]))/\Dg l O0 J par blk X R i kk R1 a w)
  (λa _=>match a.tmps.getD 12 undef with | .int _ n=>blk.length-n.toNat |_=>0) ⟨0,k0,R,L,ik _,by simpa using hL,rfl,jP,je⟩ ?_)
 rintro a w ⟨i,kk,R1,Lr,hi,hv,hlen,NU,hd⟩;refine b8 (cT ?_);rw[ao5];refine KA (ts:=sO) (lk:=[0]) (l2:=[]) aoZ ae av (apr i blk.length) hd.c hd.b hd.e (apx hd.g hd.d) (λβ3 a3 w3 r3 st3 dd3 p3=> ?_);have sn3:=Kz (B:=B) hd.c rfl st3;have vC:=hd.D p3 r3.I sn3.a (hyp.a _ _ _ _ hd.o sn3.b);have h13:a3.tmps.getD 13 undef=.bool (decide ((i:Int)<(blk.length:Int))):=F8 r3 (aps i blk.length) rfl;have aj9:∀(a':Act) w'(v:Value),a'.tmps.size=44->a'.defers=[]->R8 O0 J Jx (k0+L.length) R X (.returned v) w'->bodyPost prog f127 (R8 O0 J Jx (k0+L.length) R X) .ret (a'.put (some 6) v) w':=by intro a' w' v hs tR f_;refine⟨by rw[jT];exact tR,v,?_,f_⟩;rw[Nh apm,wj (by rw[hs];decide)]
 by_cases cC:i<blk.length
 ·rw[aD ab]at h13;refine b8 (fY (t:=true) h13 (nj ?_));obtain⟨n,La,Lb,Lc,aM5,hA,hB,hC,EL⟩:=apA cC hv;have vk:dm (aJ 97) (blk.getD i .m)=blk.getD i .m:=by
   have hg:blk.getD i .m=blk[i]:=by rw[dD,cV cC];rfl
   rw[hg];exact apy vC.f _ (mE cC)
  obtain⟨P,hP⟩:∃P,P=aa.A (par::((blk.getD i .m).V++ [.d 97 blk,.c .i64 i])):=⟨_,rfl⟩
  rw[<-hP]at hA hB EL;refine b8 (lx (apz hyp.a hp vC cC (λβ4 a4 w4 md ec YW=> ?_)));refine b8 (cT ?_);subst EL;simp only[eM,eG]at hlen;refine apl (P:=P) (La:=La) (Lb:=Lb) (n:=n) hp hyp ec md vC.k YW (by rw[hP,vk]) (by have:=NU 0 P rfl;simpa using this) (ih n ab ab) hA hB (λj v hj=> ?_) (λj v hj=> ?_) (λa5 w5 R5 p5 YX h42 NT YY aLt=> ?_) (λa5 w5 YZ YX h42 tP=> ?_)
  ·have:=NU (1+j) v (by
    rw[Ni 1 j,El,lZ (List.getElem?_eq_some_iff.1 hj).1];exact hj)
   rw[<-qI]at this;exact this
  ·have:=NU (1+(La.length+j)) v (by
    rw[Ni 1 _,El,kx ab,X2,lZ (List.getElem?_eq_some_iff.1 hj).1];exact hj)
   have e:kk+1+La.length+j=kk+(1+(La.length+j)):=ab;rw[e];exact this
  ·refine fY (t:=false) h42 (nj ?_);show(Code.region 7 (cD 7) false).wpIn Fence.wide m prog _ a5 w5;refine cT ?_;rw[ao_];have vD:=vC.D p5 YX aLt NT;refine KA (ts:=[0,1,2,10,11]) (lk:=[0,1]) (l2:=[]) ao2 ae av (apt i) YY vD.b vD.e (KB (λp hp'=>by
    simp only[Sg,EA]at hp';subst hp';exact vD.d)) (λβ6 a6 w6 r6 st6 dd6 p6=> ?_)
   have sn6:=Kz (B:=B) YY rfl st6;have aj_:a6.tmps.getD 12 undef=.int .i64 ((i+1:Nat):Int):=by have:=F8 r6 (apu i) rfl;rw[apv ab]at this;exact this
   refine⟨⟨i+1,kk+1+La.length+Lb.length,R5,Lc,cC,?_,ab,λj v hj=> ?_,?_⟩,?_⟩
   ·have e:N- (i+1)=n:=ab;rw[e];exact hC
   ·have:=NU (1+(La.length+(Lb.length+j))) v (by
     rw[Ni 1 _,El,kx ab,X2,kx ab,X2];exact hj)
    have e:kk+1+La.length+Lb.length+j=kk+(1+(La.length+(Lb.length+j))):=ab;rw[e];exact this
   ·refine⟨p6.g.trans vD.b,r6.I,?_,?_,?_,?_,?_,aj_,YY.D _ sn6.a,Kp vD.n sn6.a,hyp.a _ _ _ _ NT sn6.b⟩
    ·rw[p6.f 0 aB];exact ax.D sn6.a.D _ _ _ _ (λ_ _ h=>h) vD.j
    ·rw[p6.f 1 aB];exact ax.D sn6.a.D _ _ _ _ (λ_ _ h=>h) vD.f
    ·rw[p6.f 2 aB];exact vD.k
    ·rw[p6.f 10 aB];exact ax.D sn6.a.D _ _ _ _ (λ_ _ h=>h) vD.m
    ·rw[p6.f 11 aB];exact vD.g
   ·simp only[aj_,hd.d,dE];omega
  ·refine fY (t:=true) h42 (b8 (cT ?_));rw[ao9];refine Se Kw.1 Kw.2.1 (jV Kw.2.2.2) ?_;rw[Kw.2.2.1];show Code.ret.wpIn Fence.wide m prog _ _ w5;refine vd ?_;exact aj9 a5 w5 (.bool false) YZ YX (.inr ⟨rfl,tP⟩)
 ·rw[ly ab]at h13;refine b8 (fY (t:=false) h13 (qL ?_));have lf:blk.drop i=[]:=List.drop_eq_nil_iff.2 ab;rw[lf]at hv;have EL:Lr=[]:=by
   cases aj':N-i with
   |zero=>rw[aj']at hv;simp[jm]at hv
   |succ n=>rw[aj']at hv;simp[jm]at hv;exact hv
  subst EL;show(Code.seq (.region 8 (cD 8) false) .ret).wpIn Fence.wide m prog _ a3 w3;refine b8 (cT ?_);rw[ao'];refine Se Kx.1 Kx.2.1 (jV Kx.2.2.2) ?_;rw[Kx.2.2.1];show Code.ret.wpIn Fence.wide m prog _ _ w3;refine vd ?_;refine aj9 a3 w3 (.bool true) vC.b vC.e (.inl ⟨rfl,R1,?_,vC.n⟩);have e:k0+L.length=kk:=by simpa using hlen.symm
  rw[e];exact vC.o
end
noncomputable def wm:Array Oper:=(yu 0 (f126.body.getD .skip)).getD #[]
def acG:f126.body=some (.region 0 wm false):=ae
def apD:f126.ntmps=7:=ae
def apE:f126.results= #[]:=ae
def apF:List.range wm.size=[0,1,2,3]:=ae
def apG:jU 7 wm=true:=ae
def yx(j:Nat):Oper:=(wm[j]?).getD default
def KC:wm[2]? =some (yx 2)/\(yx 2).op=.move (.tmp 0)/\(yx 2).dst=some 5/\(yx 2).guard=none:=⟨ae,ae,ae,ae⟩
def Sh:wm[3]? =some (yx 3)/\(yx 3).op=.call ⟨.value (.func 127),#[.const (.pointer none),.tmp 4,.tmp 5],#[163,41,206]⟩/\(yx 3).guard=none:=⟨ae,ae,ae⟩
def KD(a b c:aa)(blk:List aa)(e:aa):List (Nat×aa):=[(1,.A [a,b,c,.d 97 blk,e])]
def acH(a b c:aa)(blk:List aa)(e:aa):bu:=pA (c8 fF false gb wm.toList 0 [0,1] ⟨fy .m (KD a b c blk e),λ_=>.c,0⟩).D
def apH(a b c blk e):(c8 fF false gb wm.toList 0 [0,1] ⟨fy .m (KD a b c blk e),λ_=>.c,0⟩).D=some (.a (acH a b c blk e)):=ae
def apI(a b c blk e):(acH a b c blk e).b 4=.d 97 blk:=ae
def acI{l m m':Nat}{args}{R:Ending->World->Prop}(h:YieldAt Fence.wide m P l args W R):YieldAt Fence.wide m' P l args W R:=by obtain⟨fn,tmps,asg,body,h1,h2⟩:=h;exact⟨fn,tmps,asg,body,h1,h2.1,λc cs _=>h2.2 c cs (room_wide _)⟩
def apJ(yv x):∃a0:Act,a0={tmps:= #[yv,x]++Array.replicate (7- (#[yv,x]:Array Value).size) undef,defers:=[]}/\a0.tmps.size=7/\a0.defers=[]/\a0.tmps.getD 0 undef=yv/\a0.tmps.getD 1 undef=x:=by refine⟨_,rfl,aB,rfl,?_,?_⟩<;>simp[fh]
def acJ{a b c e}(hL:jm 300 .B blk 0 blk=some L)(hO:∀b,O b->b<w.heap.size)(hg:∀g,dU aJ w O (cO g) g)
  (qW:aF aJ w O [.A [a,b,c,.d 97 blk,e]] bh lb.toList):JE aJ kn prog 126 lb (L.map λp=>.q [p]) O w:=by
 intro l J Jx W hW hq NV hy IG;obtain⟨x,r,hx,Y0,hr⟩:=qW;have hr':r=[]:=hr;subst hr';have Y1:lb= #[x]:=by exact Array.toList_inj.1 (by simpa using hx)
 subst Y1;have hyp:Kq l (L.map λp=>.q [p]) O J Jx W.heap.size:=⟨hq,λm k R X vs args h1 h2 h3=>acI ((hy k R X vs args h1 h2 h3).mono λe Y he=>he.imp id λh=>⟨h.1,h.2.1⟩)⟩
 obtain⟨Rz,Cd⟩:∃Rz:Nat->Prop,Rz=λb=>w.heap.size<=b/\b<W.heap.size:=⟨_,rfl⟩
 rw[<-Cd]at IG;have hk:cz w W O (cS O Rz):=⟨hW.f,λb hb _=>by
  rcases hW.g b hb with h | ⟨h,_⟩
  ·exact h
  ·omega,λb hb hn hz=>by
  rcases hz with hz |hz
  ·exact hn hz
  ·rw[Cd]at hz;have:=hz.1;omega⟩
 have here:nN O Rz W:=⟨λb hz=>by
  rcases hz with hz |hz
  ·exact dJ (hO b hz) hW.f
  ·rw[Cd]at hz;exact hz.2,λg=>dU.D hk (hg g)⟩
 show CallsIn Fence.wide kn prog 126 #[.func (.yield l) #[] #[],x] W _;refine BC func126 acG trivial ?_;rw[apD];obtain⟨a0,sa,vB,Cc,t00,t01⟩:=apJ (.func (.yield l) #[] #[]) x;rw[<-sa];clear sa;refine cT ?_;rw[apF];have r0:bA fF (cS O Rz) 7 0 ⟨false,[]⟩ ⟨fy .m (KD a b c blk e),λ_=>.c,0⟩ (λ_=>sP) a0 W:=bA.V (E:=fF) vB Cc here.a here.c (KB (λp hp=>by
  simp only[KD,EA]at hp;subst hp;show ax aJ W (cS O Rz) (.A [a,b,c,.d 97 blk,e]) bh (a0.tmps.getD 1 undef);rw[t01];exact ax.D hk _ _ _ _ (λ_ _ h=>h) Y0))
 refine FL (E:=fF) (base:=0) (ts:=[0]) (l2:=[2,3]) aW F1 apG [0,1] _ _ a0 r0 av (Kt ae) (λj _ i _=>rfl) (apH a b c blk e) (λβ1 a1 r1 st1 p1=> ?_);have h4:ax aJ W (cS O Rz) (.d 97 blk) bh (a1.tmps.getD 4 undef):=by have hr:=r1.m 4;rw[apI]at hr;exact ax.D (cz.D (λb hb=>.inl hb)) _ _ _ _ (λ_ _ h=>h) (q9 hr rfl)
 have h0:a1.tmps.getD 0 undef=.func (.yield l) #[] #[]:=(p1.f 0 aB).trans t00;refine JO KC.1 KC.2.1 (jV KC.2.2.2) ?_;rw[KC.2.2.1];have lt5:5<a1.tmps.size:=by rw[r1.p];decide
 have h3:=Sh.2.1;have tO:=apC hyp 300 av .B blk L 0 Rz W (.pointer none) (a1.tmps.getD 4 undef) (kn-1) hL (.inl rfl) (λj v hj=>by rw[gF,fX,hj];rfl) IG here rfl h4;have cN:(#[Operand.const (.pointer none),.tmp 4,.tmp 5].map (a1.put (some 5) (a1.eval (.tmp 0))).eval)= #[.pointer none,a1.tmps.getD 4 undef,.func (.yield l) #[] #[]]:=by have e4:(a1.put (some 5) (a1.eval (.tmp 0))).tmps.getD 4 undef=a1.tmps.getD 4 undef:=AG lt5 av _;have e5:(a1.put (some 5) (a1.eval (.tmp 0))).tmps.getD 5 undef=.func (.yield l) #[] #[]:=(wj lt5 _).trans h0;rw[<-e4,<-e5];simp[Act.eval]
 rw[<-cN]at tO;refine CQ Sh.1 h3 rfl (jV Sh.2.2) Sc tO (λe w1 he=> ?_);have fin:∀v,((∃R,J (L.map λp=>aa.q [p]).length R w1)\/Jx w1)->wpOpsIn Fence.wide kn prog wm (bodyPost prog f126 λe Y=>(∃v,e=.returned v)/\((∃R,J (L.map λp=>aa.q [p]).length R Y)\/Jx Y)) [] ((a1.put (some 5) (a1.eval (.tmp 0))).put (yx 3).dst v) w1:=by intro v hh;refine⟨by rw[jT,jT];exact r1.I,.tuple #[],?_,⟨_,rfl⟩,hh⟩;simp[results,apE]
 rcases he with⟨rfl,R',hj,_⟩ | ⟨rfl,tP⟩
 ·refine⟨_,rfl,fin _ (.inl ⟨R',?_⟩)⟩;rw[gR];simpa using hj
 ·exact⟨_,rfl,fin _ (.inr tP)⟩
noncomputable def wo(k:Nat):Code->Option (Array Oper)
 | .region id ops _=>(match Nat.beq id k with |true=>some ops |false=>none)
 | .seq a b=>(match wo k a with |some o=>some o |none=>wo k b)
 | .cond _ a b=>(match wo k a with |some o=>some o |none=>wo k b)
 | .rangeFunc _ _ a b=>(match wo k a with |some o=>some o |none=>wo k b)
 | .block _ b=>wo k b
 | .loop b=>wo k b
 |_=>none
def fG(k:Nat):Array Oper:=(wo k (f92.body.getD .skip)).getD #[]
def Si:Code:=.region 3 (fG 3) false
def F9:Code:=.block 1 (.seq (.region 4 (fG 4) true) (.cond (.tmp 21) .ret .skip))
def acK:f92.body=some (.seq (.region 0 (fG 0) false) (.seq (.seq (.region 1 (fG 1) false) (.cond (.tmp 6) .ret .skip)) (.seq (.region 2 (fG 2) false) (.block 0 (.rangeFunc (.tmp 8) #[9] Si F9))))):=ae
def apK:f92.ntmps=22:=ae
def F_:(fG 4).size=12:=ae
def uw(j:Nat):Oper:=((fG 4)[j]?).getD default
def F'(j:Nat)(h:j<12):(fG 4)[j]? =some (uw j):=by
 unfold uw;have:j<(fG 4).size:=by rw[F_];exact h
 rw[ku this];rfl
def acL(j:Nat):Op:=match j with
 |0=>.load 159 (.tmp 2) |1=>.move (.tmp 3) |2=>.nilCheck (.tmp 11) |3=>.fieldAddr 165 (.tmp 12) 1 |4=>.fieldAddr 97 (.tmp 13) 1 |5=>.load 3 (.tmp 14)
 |6=>.move (.tmp 3) |7=>.nilCheck (.tmp 16) |8=>.fieldAddr 165 (.tmp 17) 1 |9=>.load 97 (.tmp 18) |10=>.call ⟨.value (.tmp 10),#[.tmp 15,.tmp 19],#[3,97]⟩ |_=>.unOp .not 4 (.tmp 20)
def qm(j:Nat):Prop:=(uw j).op=acL j/\(uw j).dst=some (10+j)/\(uw j).guard=none
def acM:qm 0:=⟨ae,ae,ae⟩
def acN:qm 1:=⟨ae,ae,ae⟩
def acO:qm 2:=⟨ae,ae,ae⟩
def acP:qm 3:=⟨ae,ae,ae⟩
def acQ:qm 4:=⟨ae,ae,ae⟩
def acR:qm 5:=⟨ae,ae,ae⟩
def acS:qm 6:=⟨ae,ae,ae⟩
def acT:qm 7:=⟨ae,ae,ae⟩
def acU:qm 8:=⟨ae,ae,ae⟩
def acV:qm 9:=⟨ae,ae,ae⟩
def Sj:qm 10:=⟨ae,ae,ae⟩
def KE:qm 11:=⟨ae,ae,ae⟩
def g_(j:Nat):List Nat:=match j with
 |2=> [1] |3=> [2] |4=> [3] |5=> [4] |7=> [6] |8=> [7] |9=> [8] |10=> [0,5,9] |11=> [10] |_=> []
def apL(md:Region.Mode):((List.range 12).all λj=>(g_ j).all λd=>(uw j).after.toList.any λe=>Region.binds md e &&Nat.beq e.on d)=true:=by cases md<;>kernel_rfl
def apM(md:Region.Mode):((List.range 12).all λj=>(uw j).after.all λe=> !Region.binds md e || (g_ j).contains e.on)=true:=by cases md<;>kernel_rfl
def apN(h:i∈Region.ready md (fG 4) listed):i<12/\listed.getD i true=false/\∀d∈g_ i,listed.getD d false=true:=by obtain⟨h1,h2,o,h3,h4⟩:=JP h;rw[F_]at h1;refine⟨h1,h2,λd hd=> ?_⟩;rw[F' i h1]at h3;injection h3 with h3;subst h3;have h5:=List.all_eq_true.1 (apL md) i (List.mem_range.2 h1);have h6:=List.all_eq_true.1 h5 d hd;obtain⟨e,he,h7⟩:=List.any_eq_true.1 h6;rw[au]at h7;have:=h4 e he h7.1;rwa[iZ h7.2]at this
def acW(h1:i<12)(h2:listed.getD i true=false)(h3:∀d∈g_ i,listed.getD d false=true):i∈Region.ready md (fG 4) listed:=by
 unfold Region.ready;refine List.mem_filter.2 ⟨List.mem_range.2 (by rw[F_];exact h1),?_⟩;rw[F' i h1,h2];simp only[u_,qJ,jt,lr];have h5:=List.all_eq_true.1 (apM md) i (List.mem_range.2 h1);rw[X3]at h5⊢;intro e he;have h6:=h5 e he;cases hb:Region.binds md e with
 |false=>rfl
 |true=>rw[hb]at h6;simp only[zm,HO]at h6⊢;exact h3 _ (by simpa using h6)
def KF(T:bz):List (Nat×Nat×Bool):=match T.c with | .f g=>g |_=> []
def KG:(aJ 165).c=.f (KF (aJ 165))/\(KF (aJ 165))[1]? =some (1,8,true):=⟨ae,ae⟩
def Di:(aJ 97).c=.f (KF (aJ 97))/\(KF (aJ 97))[1]? =some (1,1,false)/\(aJ 97).D=true/\(aJ 97).b=true/\(aJ 97).a=8:=⟨ae,ae,ae,ae,ae⟩
def acX:(aJ 3).D=true/\(aJ 3).b=false:=⟨ae,ae⟩
def acY:(aJ 159).D=true/\(aJ 159).b=false:=⟨ae,ae⟩
section
variable{F:Fence}{n:Nat}{P:Program}{ops:Array Oper}{Q:Exit->Act->World->Prop}{a:Act}{w:World}
def Sk(hF:∀f,F.fn f)(hj:ops[i]? =some o)(hg:o.guard=none)(cP:∀c,o.op≠ .defer c)(bm:(execOp a.eval o).run P w=.ok (.value x) w)(hK:K (a.put o.dst x) w):wpOpIn F n P ops Q i K a w:=by unfold wpOpIn;rw[hj];simp only;have hw:=jV (ops:=ops) (a:=a) hg;unfold jH at hw;rw[if_pos hw];refine⟨λf _=>hF f,?_⟩;rw[X0 _ _ _ cP,bm];exact hK
def apO{cl:Call}{f}{y:Nat}{R:Ending->World->Prop}(hF:∀f,F.fn f)(NW:F.depth=none)(hj:ops[i]? =some o)(hg:o.guard=none)(ho:o.op=.call cl)(hf:cl.callee=.value f)
  (hv:a.eval f=.func (.yield y) #[] #[])(hy:YieldAt F (n-1) P y (cl.args.map a.eval) w R)(h:∀e w',R e w'->∃v,e=.returned v/\K (a.put o.dst v) w'):wpOpIn F n P ops Q i K a w:=by
 obtain⟨callee,args,argTypes⟩:=cl;simp only at hf;subst hf;obtain⟨fn,tmps,assign,body,bm,YN⟩:=hy;unfold wpOpIn;rw[hj];simp only;have hw:=jV (ops:=ops) (a:=a) hg;unfold jH at hw;rw[if_pos hw];refine⟨λf _=>hF f,?_⟩;have nw:(o.semAt F.round a.eval).run P w=.ok (.round y fn tmps assign body) w:=by rw[X0 _ _ _ (λc hc=>by rw[ho]at hc;cases hc),<-bm];simp[execOp,ho,resolve,hv,Deferred.ofValue,invoke]
 rw[nw];refine⟨(λhd=>by rw[NW]at hd;cases hd),YN.mono λe w' he=> ?_⟩;obtain⟨v,rfl,h2⟩:=h e w' he;exact h2
end
def ux(hd:o.dst=some d)(hs:d<a.tmps.size)(x):(a.put o.dst x).tmps.getD d undef=x/\∀t,t≠d->(a.put o.dst x).tmps.getD t undef=a.tmps.getD t undef:=by rw[hd];exact⟨wj hs x,λt ht=>AG hs (λe=>ht e.symm) x⟩
def AI(listed:Array Bool)(i j:Nat)(hi:i<listed.size)(d:Bool):(listed.setIfInBounds i true).getD j d=(if i=j then true else listed.getD j d):=by
 simp only[fh];by_cases h:i=j
 ·subst h;rw[Nj hi,if_pos rfl];rfl
 ·rw[EB h,if_neg h]
def KH(h:j<listed.size):listed.getD j true=listed.getD j false:=by simp only[fh];rw[ku h];rfl
section
variable(yv:Value)(b2 b o:Nat)(x2:Value)(ag:Value)(W0:World)(PB:Bool->World->Prop)
def KI(j:Nat):Value:=match j with
 |0=>yv |3=>.pointer (some ⟨b,o+1,none⟩) |8=>.pointer (some ⟨b,o+1,none⟩) |4=>.pointer (some ⟨b,o+1+1,none⟩) |5=>x2 |9=>ag |_=>.pointer (some ⟨b,o,none⟩)
inductive sQ:Array Bool->Act->World->Prop
 |c (listed:Array Bool) (a:Act):listed.size=12->listed.getD 10 false=false->listed.getD 11 false=false->(∀i,i<12->listed.getD i false=true->∀d∈g_ i,listed.getD d false=true)->a.tmps.size=22->a.defers=[]->
   a.tmps.getD 2 undef=.pointer (some ⟨b2,0,none⟩)->a.tmps.getD 3 undef=.pointer (some ⟨b,o,none⟩)->(∀j,j<10->listed.getD j false=true->a.tmps.getD (10+j) undef=KI yv b o x2 ag j)->sQ listed a W0
 |e (listed:Array Bool) (a:Act) (w:World) (t:Bool):listed.size=12->(∀j,j<11->listed.getD j false=true)->listed.getD 11 false=false->a.tmps.size=22->a.defers=[]->a.tmps.getD 20 undef=.bool t->PB t w->sQ listed a w
 |f (listed:Array Bool) (a:Act) (w:World) (t:Bool):listed.size=12->(∀j,j<12->listed.getD j false=true)->a.tmps.size=22->a.defers=[]->a.tmps.getD 21 undef=.bool !t->PB t w->sQ listed a w
end
section
variable{yv:Value}{b2 b o:Nat}{x2:Value}{ag:Value}{W0:World}{PB:Bool->World->Prop}
def sQ.D(h:sQ yv b2 b o x2 ag W0 PB listed a w):listed.size=12:=by cases h<;>assumption
def apP(h:sQ yv b2 b o x2 ag W0 PB listed a w)(hr:Region.ready md (fG 4) listed=[]):∃t,a.tmps.size=22/\a.defers=[]/\a.tmps.getD 21 undef=.bool !t/\PB t w:=by
 have none:∀i,¬i∈Region.ready md (fG 4) listed:=λi hi=>by rw[hr]at hi;cases hi
 cases h with
 |c bE h10 h11 jx=>
  exfalso;have all:∀n,n<=11->∀j,j<n->listed.getD j false=true:=by
   intro n;induction n with
   |zero=>intro _ j hj;omega
   |succ n ih=>
    intro hn j hj;have aka:=ih ab;by_cases B5:j<n
    ·exact aka j B5
    ·have:j=n:=ab;subst this;cases hb:listed.getD j false with
     |true=>rfl
     |false=>exfalso;refine none j (acW ab (by rw[KH ab];exact hb) (λd hd=>aka d ?_));have aM6:j<=10:=ab;have e:j=0\/j=1\/j=2\/j=3\/j=4\/j=5\/j=6\/j=7\/j=8\/j=9\/j=10:=ab;rcases e with rfl |rfl |rfl |rfl |rfl |rfl |rfl |rfl |rfl |rfl |rfl<;>simp[g_]at hd<;>omega
  have:=all 11 (bj _) 10 ab;rw[h10]at this;cases this
 |e _ t bE il h11=>exfalso;refine none 11 (acW ab (by rw[KH ab];exact h11) (λd hd=> ?_));simp[g_]at hd;subst hd;exact il 10 ab
 |f _ t bE il h1 h2 h3 h4=>exact⟨t,h1,h2,h3,h4⟩
set_option maxHeartbeats 1000000 in
def apQ{l0 l:Nat}{n:Nat}{c1 cs rest}(IH:dH W0 b o (c1::cs++rest))(fE:cs.length=8)(cL:cs[1]? =some x2)(np:ag=.agg cs.toArray)(Ce:dH W0 b2 0 [.func (.yield l0) #[] #[]])(akb:yv=.func (.yield l0) #[] #[])
  (hy:YieldAt (Fence.wide.inRound l) (n-1) prog l0 #[x2,ag] W0 λe Y=>(e=.returned (.bool true)/\PB true Y)\/(e=.returned (.bool false)/\PB false Y)):
  ∀(listed:Array Bool)(a:Act)(w:World),sQ yv b2 b o x2 ag W0 PB listed a w->∀i∈Region.ready md (fG 4) listed,wpOpIn (Fence.wide.inRound l) n prog (fG 4) Q i (sQ yv b2 b o x2 ag W0 PB (listed.setIfInBounds i true)) a w:=by
 intro listed a w h i hi;obtain⟨akc,zu,pg⟩:=apN hi;cases h with
 |f _ t bE il=>rw[KH ab,il i akc]at zu;cases zu
 |e _ t bE il h11 hs hd h20 qZ=>
  have aLu:i=11:=by
   by_cases h:i<11
   ·rw[KH ab,il i h]at zu;cases zu
   ·omega
  subst aLu;refine Sk (λf=>trivial) (F' 11 ab) KE.2.2 (λc hc=>by rw[KE.1]at hc;cases hc) (PL KE.1 h20) ?_;obtain⟨q1,_⟩:=ux (a:=a) KE.2.1 (by rw[hs];decide) (.bool !t);refine .f _ _ _ t (by simpa using bE) (λj hj=> ?_) (by rw[fS];exact hs) (by rw[jT];exact hd) q1 qZ;rw[AI _ _ _ ab];by_cases h:11=j
  ·rw[if_pos h]
  ·rw[if_neg h];exact il j ab
 |c bE h10 h11 jx hs hd h2 h3 ov=>
  have aM7:i≠11:=λe=>by subst e;have:=pg 10 (by simp[g_]);rw[h10]at this;cases this
  have vE:∀j,j<10->listed.getD j false=true->∀v,KI yv b o x2 ag j=v->a.eval (.tmp (10+j))=v:=λj hj hl v hv=>(ov j hj hl).trans hv;have vF:∀j,i=j->j<10->qm j->(∀c,acL j≠ .defer c)->(execOp a.eval (uw j)).run prog W0=.ok (.value (KI yv b o x2 ag j)) W0->wpOpIn (Fence.wide.inRound l) n prog (fG 4) Q i (sQ yv b2 b o x2 ag W0 PB (listed.setIfInBounds i true)) a W0:=by
   intro j gH hj hz cP bm;subst gH;refine Sk (λf=>trivial) (F' i akc) hz.2.2 (λc hc=>by rw[hz.1]at hc;exact cP c hc) bm ?_;obtain⟨q1,q2⟩:=ux (a:=a) hz.2.1 (by rw[hs];omega) (KI yv b o x2 ag i);refine .c _ _ (by simpa using bE) ?_ ?_ (λk hk hl d hd'=> ?_) (by rw[fS];exact hs) (by rw[jT];exact hd) ((q2 2 ab).trans h2) ((q2 3 ab).trans h3) (λk hk hl=> ?_)
   ·rw[AI _ _ _ ab,if_neg ab];exact h10
   ·rw[AI _ _ _ ab,if_neg ab];exact h11
   ·rw[AI _ _ _ ab]at hl⊢;by_cases Cb:i=k
    ·subst Cb;by_cases hid:i=d
     ·rw[if_pos hid]
     ·rw[if_neg hid];exact pg d hd'
    ·rw[if_neg Cb]at hl;by_cases hid:i=d
     ·rw[if_pos hid]
     ·rw[if_neg hid];exact jx k hk hl d hd'
   ·by_cases Cb:i=k
    ·subst Cb;exact q1
    ·rw[AI _ _ _ ab,if_neg Cb]at hl;rw[q2 (10+k) ab];exact ov k hk hl
  have e:i=0\/i=1\/i=2\/i=3\/i=4\/i=5\/i=6\/i=7\/i=8\/i=9\/i=10:=ab;have xG:dH W0 b (o+1) (cs++rest):=by have:=IH.D 1;simpa using this
  rcases e with h |h |h |h |h |h |h |h |h |h |h
  ·exact vF 0 h ab acM (λc hc=>by cases hc) (ye (T:=aJ) (r:=[]) aW acY.1 acY.2 (by rw[akb]at*;exact Ce) acM.1 h2)
  ·exact vF 1 h ab acN (λc hc=>by cases hc) (by rw[CR acN.1];exact dh (λv=>Result.ok (Next.value v) W0) h3)
  ·exact vF 2 h ab acO (λc hc=>by cases hc) (abO acO.1 (vE 1 ab (pg 1 (by rw[h];simp[g_])) _ rfl))
  ·exact vF 3 h ab acP (λc hc=>by cases hc) (uf aW KG.1 KG.2 acP.1 (vE 2 ab (pg 2 (by rw[h];simp[g_])) _ rfl))
  ·exact vF 4 h ab acQ (λc hc=>by cases hc) (uf aW Di.1 Di.2.1 acQ.1 (vE 3 ab (pg 3 (by rw[h];simp[g_])) _ rfl))
  ·refine vF 5 h ab acR (λc hc=>by cases hc) (ye (T:=aJ) (r:=(cs.drop 2)++rest) aW acX.1 acX.2 ?_ acR.1 (vE 4 ab (pg 4 (by rw[h];simp[g_])) _ rfl));have h1:=xG.D 1;rw[List.drop_append_of_le_length ab,oY ab]at h1;rw[cV ab]at cL;injection cL with cL;rw[cL]at h1;exact h1
  ·exact vF 6 h ab acS (λc hc=>by cases hc) (by rw[CR acS.1];exact dh (λv=>Result.ok (Next.value v) W0) h3)
  ·exact vF 7 h ab acT (λc hc=>by cases hc) (abO acT.1 (vE 6 ab (pg 6 (by rw[h];simp[g_])) _ rfl))
  ·exact vF 8 h ab acU (λc hc=>by cases hc) (uf aW KG.1 KG.2 acU.1 (vE 7 ab (pg 7 (by rw[h];simp[g_])) _ rfl))
  ·refine vF 9 h ab acV (λc hc=>by cases hc) ?_;have h1:=abN (T:=aJ) (P:=prog) (o:=uw 9) (a:=a) aW Di.2.2.1 Di.2.2.2.1 xG (by rw[Di.2.2.2.2,eG];omega) acV.1 (vE 8 ab (pg 8 (by rw[h];simp[g_])) _ rfl);rw[h1,Di.2.2.2.2,List.take_append_of_le_length ab,pL ab,<-np];rfl
  ·subst h;have aLv:=vE 0 ab (pg 0 (by simp[g_])) _ rfl;have aLw:=vE 5 ab (pg 5 (by simp[g_])) _ rfl;have aLx:=vE 9 ab (pg 9 (by simp[g_])) _ rfl;have cN:(#[Operand.tmp 15,.tmp 19].map a.eval)= #[x2,ag]:=by have e1:a.eval (.tmp 15)=x2:=aLw;have e2:a.eval (.tmp 19)=ag:=aLx;simp[e1,e2]
   refine apO (λf=>trivial) rfl (F' 10 ab) Sj.2.2 Sj.1 rfl (by rw[<-akb];exact aLv) (by rw[cN];exact hy) (λe w' he=> ?_);have all:∀j,j<10->listed.getD j false=true:=by have k0:=pg 0 (by simp[g_]);have k5:=pg 5 (by simp[g_]);have k9:=pg 9 (by simp[g_]);have k4:=jx 5 ab k5 4 (by simp[g_]);have k3:=jx 4 ab k4 3 (by simp[g_]);have k2:=jx 3 ab k3 2 (by simp[g_]);have k1:=jx 2 ab k2 1 (by simp[g_]);have k8:=jx 9 ab k9 8 (by simp[g_]);have k7:=jx 8 ab k8 7 (by simp[g_]);have k6:=jx 7 ab k7 6 (by simp[g_]);intro j hj;have e:j=0\/j=1\/j=2\/j=3\/j=4\/j=5\/j=6\/j=7\/j=8\/j=9:=ab;rcases e with rfl |rfl |rfl |rfl |rfl |rfl |rfl |rfl |rfl |rfl<;>assumption
   have fin:∀t,PB t w'->sQ yv b2 b o x2 ag W0 PB (listed.setIfInBounds 10 true) (a.put (uw 10).dst (.bool t)) w':=by
    intro t qZ;obtain⟨q1,_⟩:=ux (a:=a) Sj.2.1 (by rw[hs];decide) (.bool t);refine .e _ _ _ t (by simpa using bE) (λj hj=> ?_) ?_ (by rw[fS];exact hs) (by rw[jT];exact hd) q1 qZ
    ·rw[AI _ _ _ ab];by_cases h:10=j
     ·rw[if_pos h]
     ·rw[if_neg h];exact all j ab
    ·rw[AI _ _ _ ab,if_neg ab];exact h11
   rcases he with⟨rfl,qZ⟩ | ⟨rfl,qZ⟩
   ·exact⟨_,rfl,fin true qZ⟩
   ·exact⟨_,rfl,fin false qZ⟩
end
section
variable{O0:Nat->Prop}{B:Nat}{R:Nat->Prop}{a:Act}{w w':World}
structure nO(O0:Nat->Prop)(R:Nat->Prop)(w w':World):Prop where
 f:w'.os=w.os
 g:w'.tape=w.tape
 i:w'.output=w.output
 a:w.heap.size<=w'.heap.size
 e:∀b,b<w.heap.size->w'.heap[b]? =w.heap[b]?
def nO.U(c:nO O0 R w w'):cc B w w':=⟨c.f,c.g,c.i,c.a,λb hb=>.inl (c.e b hb)⟩
def nO.D(c:nO O0 R w w')(hh:nN O0 R w):kI (cS O0 R) w (cS O0 R) w':=⟨c.a,λb hb _=>c.e b hb,λb h=>.inl h,λb h=>dJ (hh.a b h) c.a⟩
def nO.I{w''}(c:nO O0 R w w')(d:nO O0 R w' w''):nO O0 R w w'':=⟨d.f.trans c.f,d.g.trans c.g,d.i.trans c.i,eb c.a d.a,λb hb=>(d.e b (dJ hb c.a)).trans (c.e b hb)⟩
def apR(w)(o:Obj):nO O0 R w (w.alloc o):=by refine⟨rfl,rfl,rfl,by simp[zi],λb hb=> ?_⟩;show(w.heap.push o)[b]? =_;rw[HI hb,ku hb]
def acZ{M:aq}(h:ck aJ cO prog f M){args}(e:(M args []).D=some (.a v []))(hh:nN O0 R w){bk}(ha:aF aJ w (cS O0 R) args bh bk.toList)(hv:v.gx=true)
  (xB:∀args w,(callFunc f args).run prog w=.ok (.enter f args) w):Calls prog f bk w λen w'=>∃x,en=.returned x/\ax aJ w' (cS O0 R) v bh x/\nO O0 R w w':=by
 have ec:∀i,a_ [] i=aj.c:=λi=>by cases i<;>rfl
 have nm:∀(β:Nat->AH.bd) i,¬cQ (a_ []) β i:=λβ i mi=>by have:=mi.1;rw[ec i]at this;cases this
 have hk:cz w w (cS O0 R) (AH.aY (cS O0 R) (a_ []) (λ_=>sP)):=cz.D (λb hb=>by
  rcases hb with hb | ⟨i,mi,_⟩
  ·exact hb
  ·exact absurd mi (nm _ i))
 have cx:cY aJ cO (cS O0 R) (a_ []) (λ_=>sP) w:=⟨(λi=>by rw[ec i];trivial),(λi ha=>by rw[ec i]at ha;cases ha),λi j _ mi=>absurd mi (nm _ i),hh.a,λi mi=>absurd mi (nm _ i),λg=>dU.D hk (hh.c g)⟩
 have h1:=h args [] _ e aB (cS O0 R) (λ_=>sP) w bk cx (aF.D hk _ _ _ _ (λ_ _ h=>h.elim) ha);have fin:∀en w',AH.kE aJ cO (cS O0 R) [] (λ_=>sP) w (.a v []) en w'->∃x,en=.returned x/\ax aJ w' (cS O0 R) v bh x/\nO O0 R w w':=by
  intro en w' he;cases en with
  |returned x=>obtain⟨v',mG,β',e1,g⟩:=he;injection e1 with e1 e2;subst e1;subst e2;refine⟨x,rfl,ax.D (cz.D (λb hb=>.inl hb)) _ _ _ _ (λ_ _ h=>h) (q9 g.b hv),g.a.f,g.a.n,g.a.p,g.a.c,λb hb=>g.a.d b hb (λi mi=>absurd mi (nm _ i))⟩
  |panicked c=>obtain⟨_,_,_,_,e1,_⟩:=he;cases e1
  |outgrown=>exact he.elim
 rcases h1 with⟨_,h2⟩ | ⟨x,w',h2,_⟩
 ·exact Nf h2 fin
 ·rw[xB]at h2;cases h2
end
section
variable{P:Program}{w w':World}{a:Act}{ops:Array Oper}
def KJ(hj:ops[j]? =some o)(hg:o.guard=none)(bm:(execOp a.eval o).run P w=.ok (.value x) w')
  (h:wpOpsIn Fence.wide k P ops Q l (a.put o.dst x) w'):wpOpsIn Fence.wide k P ops Q (j::l) a w:=by
 unfold wpOpsIn;rw[hj];simp only;have hw:=jV (ops:=ops) (a:=a) hg;unfold jH at hw;rw[if_pos hw];refine⟨λf _=>trivial,?_⟩;have nw:(o.semAt Fence.wide.round a.eval).run P w=.ok (.value x) w':=bm;rw[nw];exact h
end
def Ga(p:aa):aa:=match p with | .A cs=>.q [cs.getD 2 .m,.u ((cs.drop 1).take 8)] |_=>.m
def fI(r j:Nat):Oper:=((fG r)[j]?).getD default
def KK:(fG 0)[0]? =some (fI 0 0)/\(fI 0 0).op=.box 159 (.tmp 0)/\(fI 0 0).dst=some 2/\(fI 0 0).guard=none:=⟨ae,ae,ae,ae⟩
def KL:(fG 1)[0]? =some (fI 1 0)/\(fI 1 0).op=.load 43 (.tmp 1)/\(fI 1 0).dst=some 4/\(fI 1 0).guard=none:=⟨ae,ae,ae,ae⟩
def KM:(fG 1)[1]? =some (fI 1 1)/\(fI 1 1).op=.call ⟨.value (.func 93),#[.tmp 4],#[43]⟩/\(fI 1 1).dst=some 5/\(fI 1 1).guard=none:=⟨ae,ae,ae,ae⟩
def KN:(fG 1)[2]? =some (fI 1 2)/\(fI 1 2).op=.unOp .not 4 (.tmp 5)/\(fI 1 2).dst=some 6/\(fI 1 2).guard=none:=⟨ae,ae,ae,ae⟩
def KO:(fG 2)[0]? =some (fI 2 0)/\(fI 2 0).op=.load 43 (.tmp 1)/\(fI 2 0).dst=some 7/\(fI 2 0).guard=none:=⟨ae,ae,ae,ae⟩
def KP:(fG 2)[1]? =some (fI 2 1)/\(fI 2 1).op=.call ⟨.value (.func 94),#[.tmp 7],#[43]⟩/\(fI 2 1).dst=some 8/\(fI 2 1).guard=none:=⟨ae,ae,ae,ae⟩
def Gb:(fG 3)[0]? =some (fI 3 0)/\(fI 3 0).op=.assign (.tmp 9)/\(fI 3 0).dst=some 3/\(fI 3 0).guard=none:=⟨ae,ae,ae,ae⟩
def apS:List.range (fG 0).size=[0]:=ae
def apT:List.range (fG 1).size=[0,1,2]:=ae
def apU:List.range (fG 2).size=[0,1]:=ae
def apV:List.range (fG 3).size=[0]:=ae
def KQ:(aJ 43).D=true/\(aJ 43).b=true/\(aJ 43).a=5:=⟨ae,ae,ae⟩
def apW:(f93.name== "runtime.NumGoroutine")=false:=ae
def apX:(f94.name== "runtime.NumGoroutine")=false:=ae
def ac0:∀args w,(callFunc 93 args).run prog w=.ok (.enter 93 args) w:=F7 (c:=f93.body.getD .skip) func93 apW ae
def ac1:∀args w,(callFunc 94 args).run prog w=.ok (.enter 94 args) w:=F7 (c:=f94.body.getD .skip) func94 apX ae
def apY:(f126.name== "runtime.NumGoroutine")=false:=ae
def ac2:∀args w,(callFunc 126 args).run prog w=.ok (.enter 126 args) w:=F7 func126 apY acG
def apZ(yv x):∃a0:Act,a0={tmps:= #[yv,x]++Array.replicate (22- (#[yv,x]:Array Value).size) undef,defers:=[]}/\a0.tmps.size=22/\a0.defers=[]/\a0.tmps.getD 0 undef=yv/\a0.tmps.getD 1 undef=x:=by refine⟨_,rfl,aB,rfl,?_,?_⟩<;>simp[fh]
structure ap0(l:Nat)(O:Nat->Prop)(Rz:Nat->Prop)(cs5:List aa)(W:World)(b2:Nat)(q:Array Value)(a:Act)(w:World):Prop where
 d:a.tmps.size=22
 e:a.defers=[]
 f:a.tmps.getD 2 undef=.pointer (some ⟨b2,0,none⟩)
 g:a.tmps.getD 8 undef=.func (.func 126) #[] q
 h:aF aJ w (cS O Rz) [.A cs5] bh q.toList
 i:w.heap[b2]? =some (.cells #[.func (.yield l) #[] #[]] 159)
 b:W.heap.size<=b2/\b2<w.heap.size
 c:nO O Rz W w
def ap1(h128:ck aJ cO prog 93 ID)(h129:ck aJ cO prog 94 IE)(h5:cs5.length=5)(akd:aa.jD cs5=[])(Y2:(ID [.u cs5] []).D=some (.a (.p true) []))(Y3:(IE [.u cs5] []).D=some (.a (.z 126 [] [.A cs5]) []))
 {l:Nat}{Rz}(here:nN O Rz W)(hx:ax aJ W (cS O Rz) (.A cs5) bh x){a0:Act}(vB:a0.tmps.size=22)(Cc:a0.defers=[])(t00:a0.tmps.getD 0 undef=.func (.yield l) #[] #[])(t01:a0.tmps.getD 1 undef=x)
  (hK:∀a w b2 q,ap0 l O Rz cs5 W b2 q a w->c.wpIn Fence.wide kn prog Q a w):
  (Code.seq (.region 0 (fG 0) false) (.seq (.seq (.region 1 (fG 1) false) (.cond (.tmp 6) .ret .skip)) (.seq (.region 2 (fG 2) false) c))).wpIn Fence.wide kn prog Q a0 W:=by
 obtain⟨b,o,l5,rfl,hb,ake,NX,zG⟩:=hx;have aM8:l5.length=5:=by rw[zG.I,h5]
 refine b8 (cT ?_);rw[apS];obtain⟨W1,vv⟩:∃W1,W1=W.alloc (.cells #[.func (.yield l) #[] #[]] 159):=⟨_,rfl⟩
 have aLy:(execOp a0.eval (fI 0 0)).run prog W=.ok (.value (.pointer (some ⟨W.heap.size,0,none⟩))) W1:=by have e0:a0.eval (.tmp 0)=.func (.yield l) #[] #[]:=t00;rw[vv];simp[execOp,KK.2.1,e0,Instr.box,newVar];rfl
 refine KJ KK.1 KK.2.2.2 aLy ?_;have c1:nO O Rz W W1:=by rw[vv];exact apR W _
 have NY:W1.heap[W.heap.size]? =some (.cells #[.func (.yield l) #[] #[]] 159):=by rw[vv];exact ji W _
 have ir:W.heap.size<W1.heap.size:=by rw[vv];simp[zi]
 obtain⟨a1,tS⟩:∃a1,a1=a0.put (fI 0 0).dst (.pointer (some ⟨W.heap.size,0,none⟩)):=⟨_,rfl⟩
 obtain⟨p1,p1'⟩:=ux (a:=a0) KK.2.2.1 (by rw[vB];decide) (.pointer (some ⟨W.heap.size,0,none⟩));rw[<-tS]at p1 p1'⊢;have sz1:a1.tmps.size=22:=by rw[tS,fS];exact vB
 have df1:a1.defers=[]:=by rw[tS,jT];exact Cc
 clear tS;have aLz:=here.D _ (c1.D here);show(Code.seq _ _).wpIn Fence.wide kn prog Q a1 W1;refine b8 (b8 (cT ?_));rw[apT];have lies_at:∀{w:World},nO O Rz W w->dH w b o l5:=λc=>NX.V (c.e b hb);have rS:∀{w:World},nO O Rz W w->aF aJ w (cS O Rz) [.u cs5] bh [.agg l5.toArray]:=λc=>by refine⟨_,[],rfl,⟨l5.toArray,rfl,?_⟩,rfl⟩;have:=aF.D (c.D here).D cs5 bh bh l5 (λ_ _ h=>h) zG;simpa using this
 have akf:∀{w:World}{a:Act}{oo:Oper},nO O Rz W w->oo.op=.load 43 (.tmp 1)->a.tmps.getD 1 undef=.pointer (some ⟨b,o,none⟩)->(execOp a.eval oo).run prog w=.ok (.value (.agg l5.toArray)) w:=by intro w a oo c aLA h1;have:=abN (T:=aJ) (P:=prog) (o:=oo) (a:=a) aW KQ.1 KQ.2.1 (lies_at c) (by rw[KQ.2.2];omega) aLA h1;rw[this,KQ.2.2,pL ab]
 refine KJ KL.1 KL.2.2.2 (akf c1 KL.2.1 ((p1' 1 ab).trans t01)) ?_;obtain⟨a2,tT⟩:∃a2,a2=a1.put (fI 1 0).dst (.agg l5.toArray):=⟨_,rfl⟩
 obtain⟨p2,p2'⟩:=ux (a:=a1) KL.2.2.1 (by rw[sz1];decide) (.agg l5.toArray);rw[<-tT]at p2 p2'⊢;have sz2:a2.tmps.size=22:=by rw[tT,fS];exact sz1
 have df2:a2.defers=[]:=by rw[tT,jT];exact df1
 clear tT;have cN:(#[Operand.tmp 4].map a2.eval)= #[.agg l5.toArray]:=by have e4:a2.eval (.tmp 4)=.agg l5.toArray:=p2;simp[e4]
 have akg:=acZ h128 Y2 aLz (bk:= #[.agg l5.toArray]) (rS c1) rfl ac0;rw[<-cN]at akg;refine CQ KM.1 KM.2.1 rfl (jV KM.2.2.2) ac0 (callsIn_wide.2 akg) (λe w2 he=> ?_);obtain⟨x2,rfl,cL,c2⟩:=he;have cL:x2=.bool true:=cL;subst cL;refine⟨_,rfl,?_⟩;obtain⟨a3,NZ⟩:∃a3,a3=a2.put (fI 1 1).dst (.bool true):=⟨_,rfl⟩
 obtain⟨p3,p3'⟩:=ux (a:=a2) KM.2.2.1 (by rw[sz2];decide) (.bool true);rw[<-NZ]at p3 p3'⊢;have sz3:a3.tmps.size=22:=by rw[NZ,fS];exact sz2
 have df3:a3.defers=[]:=by rw[NZ,jT];exact df2
 clear NZ;refine KJ KN.1 KN.2.2.2 (PL KN.2.1 p3) ?_;obtain⟨a4,N0⟩:∃a4,a4=a3.put (fI 1 2).dst (.bool !true):=⟨_,rfl⟩
 obtain⟨p4,p4'⟩:=ux (a:=a3) KN.2.2.1 (by rw[sz3];decide) (.bool !true);rw[<-N0]at p4 p4'⊢;have sz4:a4.tmps.size=22:=by rw[N0,fS];exact sz3
 have df4:a4.defers=[]:=by rw[N0,jT];exact df3
 clear N0;show(Code.cond (.tmp 6) .ret .skip).wpIn Fence.wide kn prog _ a4 w2;refine fY (t:=false) p4 (nj ?_);show(Code.seq (.region 2 (fG 2) false) c).wpIn Fence.wide kn prog _ a4 w2;refine b8 (cT ?_);rw[apU];have c02:=c1.I c2;have aLB:=here.D _ (c02.D here);have t14:a4.tmps.getD 1 undef=.pointer (some ⟨b,o,none⟩):=by rw[p4' 1 ab,p3' 1 ab,p2' 1 ab,p1' 1 ab];exact t01
 have t24:a4.tmps.getD 2 undef=.pointer (some ⟨W.heap.size,0,none⟩):=by rw[p4' 2 ab,p3' 2 ab,p2' 2 ab];exact p1
 refine KJ KO.1 KO.2.2.2 (akf c02 KO.2.1 t14) ?_;obtain⟨a5,N1⟩:∃a5,a5=a4.put (fI 2 0).dst (.agg l5.toArray):=⟨_,rfl⟩
 obtain⟨p5,p5'⟩:=ux (a:=a4) KO.2.2.1 (by rw[sz4];decide) (.agg l5.toArray);rw[<-N1]at p5 p5'⊢;have sz5:a5.tmps.size=22:=by rw[N1,fS];exact sz4
 have df5:a5.defers=[]:=by rw[N1,jT];exact df4
 clear N1;have BT:(#[Operand.tmp 7].map a5.eval)= #[.agg l5.toArray]:=by have e7:a5.eval (.tmp 7)=.agg l5.toArray:=p5;simp[e7]
 have akh:=acZ h129 Y3 aLB (bk:= #[.agg l5.toArray]) (rS c02) rfl ac1;rw[<-BT]at akh;refine CQ KP.1 KP.2.1 rfl (jV KP.2.2.2) ac1 (callsIn_wide.2 akh) (λe w3 he=> ?_);obtain⟨x3,rfl,iJ,c3⟩:=he;obtain⟨q1,q,rfl,pO,hq⟩:=iJ;have pO:q1= #[]:=by have:q1.toList=[]:=pO;simpa using this
 subst pO;refine⟨_,rfl,?_⟩;obtain⟨p6,p6'⟩:=ux (a:=a5) KP.2.2.1 (by rw[sz5];decide) (.func (.func 126) #[] q);have c03:=c02.I c3;refine hK _ w3 W.heap.size q ⟨by rw[fS];exact sz5,by rw[jT];exact df5,?_,p6,hq,?_,⟨bj _,?_⟩,c03⟩
 ·rw[p6' 2 ab,p5' 2 ab];exact t24
 ·rw[c3.e _ (dJ ir c2.a),c2.e _ ir];exact NY
 ·exact dJ ir (eb c2.a c3.a)
def ap2(h:9<=l9.length):∃c1 cs8 rest,l9=c1::cs8++rest/\cs8.length=8/\cs8=(l9.drop 1).take 8:=by
 cases l9 with
 |nil=>simp at h
 |cons c r=>
  refine⟨c,r.take 8,r.drop 8,?_,?_,rfl⟩
  ·rw[u9,XR]
  ·rw[pM];simp at h;omega
section
variable{l l1 B:Nat}{O Rz:Nat->Prop}{cs5:List aa}{W w:World}{b2:Nat}{q:Array Value}{a:Act}{kn:Nat}{J:Nat->(Nat->Prop)->World->Prop}{Jx:World->Prop}{items:List aa}{R1:Nat->Prop}
def Sl(J:Nat->(Nat->Prop)->World->Prop)(Jx:World->Prop)(O R1:Nat->Prop)(k:Nat)(X:World)(t:Bool)(Y:World):Prop:=(t=true/\∃R',J (k+1) R' Y/\sA O R1 X R' Y)\/(t=false/\Jx Y/\∃R',sA O R1 X R' Y)
def ap3(hy:∀k R X vs args,items[k]? =some (.q vs)->J k R X->aF aJ X (λb=>O b\/R b) vs bh args->
   YieldAt Fence.wide (kn-1) prog l args.toArray X λe Y=>(e=.returned (.bool true)/\∃R',J (k+1) R' Y/\sA O R X R' Y)\/(e=.returned (.bool false)/\Jx Y/\∃R',sA O R X R' Y))
 {cs}(h9:9<=cs.length)(jP:items[k]? =some (Ga (.A cs))){W5}{a5:Act}{b o:Nat}(hJ:J k R1 W5)(hq:∀k R X Y,J k R X->cc B X Y->J k R Y)(IH:dH W5 b o l9)(eo:aF aJ W5 (λb=>O b\/R1 b) cs bh l9)
  (Ce:W5.heap[b2]? =some (.cells #[.func (.yield l) #[] #[]] 159))(bE:a5.tmps.size=22)(tR:a5.defers=[])(t2:a5.tmps.getD 2 undef=.pointer (some ⟨b2,0,none⟩))(t3:a5.tmps.getD 3 undef=.pointer (some ⟨b,o,none⟩)){m:Nat}
  (hT:∀a' Y,(∃R',J (k+1) R' Y/\sA O R1 {W5 with drawn:=W5.drawn+1} R' Y)->Q .normal a' Y)(hF:∀a' Y,(Jx Y/\∃R',sA O R1 {W5 with drawn:=W5.drawn+1} R' Y)->Q .ret a' Y):
  F9.wpIn (Fence.wide.inRound l1) m prog Q a5 W5:=by
 have hlen:=eo.I;obtain⟨c1,cs8,rest,aki,aLC,aLD⟩:=ap2 (l9:=l9) ab;obtain⟨W6,EY⟩:∃W6,W6={W5 with drawn:=W5.drawn+1}:=⟨_,rfl⟩
 rw[<-EY]at hT hF;have aLE:cc B W5 W6:=by rw[EY];exact cc.Z8 rfl rfl rfl rfl
 have aLF:cz W5 W6 (λb=>O b\/R1 b) (λb=>O b\/R1 b):=by rw[EY];exact JD rfl
 have akj:aF aJ W6 (λb=>O b\/R1 b) cs bh l9:=aF.D aLF _ _ _ _ (λ_ _ h=>h) eo;have akk:dH W6 b o l9:=by rw[EY];exact IH
 obtain⟨x2,cL⟩:∃x2,cs8[1]? =some x2:=⟨cs8[1]'ab,cV ab⟩
 have aLG:l9[2]? =some x2:=by rw[aki,u9,El,lZ ab];exact cL
 have BS:cs[2]? =some (cs.getD 2 .m):=by rw[dD,cV (show 2<cs.length from ab)];rfl
 obtain⟨y,iK,kz⟩:=aF.vU 2 _ akj BS;rw[aLG]at iK;injection iK with iK;subst iK;have cN:aF aJ W6 (λb=>O b\/R1 b) [cs.getD 2 .m,.u ((cs.drop 1).take 8)] bh [x2,.agg cs8.toArray]:=by refine⟨_,_,rfl,kz,_,[],rfl,⟨_,rfl,?_⟩,rfl⟩;rw[aLD];simpa using (akj.V 1).so 8
 have jy:=hy k R1 W6 _ _ jP (hq _ _ _ _ hJ aLE) cN;have aLH:YieldAt (Fence.wide.inRound l1) (m-1) prog l #[x2,.agg cs8.toArray] W6 λe Y=>(e=.returned (.bool true)/\Sl J Jx O R1 k W6 true Y)\/(e=.returned (.bool false)/\Sl J Jx O R1 k W6 false Y):=
  (acI jy).mono λe Y he=>he.imp (λh=>⟨h.1,.inl ⟨rfl,h.2⟩⟩) (λh=>⟨h.1,.inr ⟨rfl,h.2⟩⟩)
 have eT:dH W6 b2 0 [.func (.yield l) #[] #[]]:=by
  intro j u hj;have h1:W6.heap[b2]? =some (.cells #[.func (.yield l) #[] #[]] 159):=by rw[EY];exact Ce
  cases j with
  |zero=>injection hj with hj;subst hj;simp[World.cell?,h1]
  |succ j=>cases hj
 rw[aki]at akk;unfold F9;refine lx (b8 (abM λmd=> ?_));rw[<-EY];refine PK (sQ (.func (.yield l) #[] #[]) b2 b o x2 (.agg cs8.toArray) W6 (Sl J Jx O R1 k W6)) (λlisted a w h=>by rw[F_];exact h.D) (λlisted a w h=>apQ (n:=m) akk aLC cL rfl eT rfl aLH listed a w h) (λlisted a' Y h hr=> ?_) (fG 4).size (Array.replicate (fG 4).size false) a5 W6 ?_ ?_
 ·obtain⟨t,s1,s2,s3,qZ⟩:=apP h hr;rcases qZ with⟨rfl,qZ⟩ | ⟨rfl,qZ⟩
  ·exact fY (t:=false) s3 (nj (hT a' Y qZ))
  ·exact fY (t:=true) s3 (vd (hF a' Y qZ))
 ·rw[F_];exact .c _ _ aB av av (λi hi hl=>by rw[show ∀j,(Array.replicate 12 false).getD j false=false from λj=>by simp[fh,X4];split<;>rfl]at hl;cases hl) bE tR t2 t3 (λj hj hl=>by rw[show ∀j,(Array.replicate 12 false).getD j false=false from λj=>by simp[fh,X4];split<;>rfl]at hl;cases hl)
 ·unfold FN;refine eb (Nk _ _) ?_;simp
end
set_option maxHeartbeats 1000000 in
def ap4(h128:ck aJ cO prog 93 ID)(h129:ck aJ cO prog 94 IE){a b c e}(II:cs5=[a,b,c,.d 97 blk,e])(akd:aa.jD cs5=[])(Y2:(ID [.u cs5] []).D=some (.a (.p true) []))(Y3:(IE [.u cs5] []).D=some (.a (.z 126 [] [.A cs5]) []))
  (hL:jm 300 .B blk 0 blk=some L)(bH:∀p∈L,∃cs,p=.A cs/\9<=cs.length){w0}(hO:∀b,O b->b<w0.heap.size)(hg:∀g,dU aJ w0 O (cO g) g)
  (qW:aF aJ w0 O [.A cs5] bh lb.toList):JE aJ kn prog 92 lb (L.map Ga) O w0:=by
 intro l J Jx W hW hq NV hy IG;obtain⟨x,r,hx,Y0,hr⟩:=qW;have hr':r=[]:=hr;subst hr';have Y1:lb= #[x]:=Array.toList_inj.1 (by simpa using hx);subst Y1;obtain⟨Rz,Cd⟩:∃Rz:Nat->Prop,Rz=λb=>w0.heap.size<=b/\b<W.heap.size:=⟨_,rfl⟩
 rw[<-Cd]at IG;have hk:cz w0 W O (cS O Rz):=⟨hW.f,λb hb _=>by
  rcases hW.g b hb with h | ⟨h,_⟩
  ·exact h
  ·omega,λb hb hn hz=>by
  rcases hz with hz |hz
  ·exact hn hz
  ·rw[Cd]at hz;have:=hz.1;omega⟩
 have here:nN O Rz W:=⟨λb hz=>by
  rcases hz with hz |hz
  ·exact dJ (hO b hz) hW.f
  ·rw[Cd]at hz;exact hz.2,λg=>dU.D hk (hg g)⟩
 have aLI:ax aJ W (cS O Rz) (.A cs5) bh x:=ax.D hk _ _ _ _ (λ_ _ h=>h) Y0;show CallsIn Fence.wide kn prog 92 #[.func (.yield l) #[] #[],x] W _;refine Nd func92 acK trivial ?_;rw[apK];obtain⟨a0,sa,vB,Cc,t00,t01⟩:=apZ (.func (.yield l) #[] #[]) x;rw[<-sa];clear sa;refine ap1 h128 h129 (by rw[II];rfl) akd Y2 Y3 here aLI vB Cc t00 t01 (λa1 w b2 q hs=> ?_);have IJ:=here.D _ (hs.c.D here);have aLJ:¬cS O Rz b2:=λhz=>by have:=here.a _ hz;have:=hs.b.1;omega
 refine lx (wpIn_rangeFunc (λfn xC=> ?_));obtain⟨rec,ga⟩:∃rec:LoopState->Option Code->Loop,rec=λst pe=>{state:=st,pending:=pe,fn,tmps:=a1.tmps,params:= #[9],assign:=Si,body:=F9,defers:=w.heap.size}:=⟨_,rfl⟩
 obtain⟨W4,IK⟩:∃W4,(w.alloc (.deferred (some []))).alloc (.loop (rec .ready none))=W4:=⟨_,rfl⟩
 have aLK:W4.heap.size=w.heap.size+2:=by rw[<-IK];simp[zi]
 have akl:W4.heap[w.heap.size+1]? =some (.loop (rec .ready none)):=by rw[<-IK];have:=World.alloc_heap_new (w.alloc (.deferred (some []))) (.loop (rec .ready none));rwa[zi]at this
 have IL:∀B',cc B' w W4:=λB'=>by rw[<-IK];exact(cc.V w _).Fo (cc.V _ _)
 have akm:W4.heap[w.heap.size]? =some (.deferred (some [])):=by rw[<-IK];show(((w.heap.push (.deferred (some []))).push _)[w.heap.size]?)=_;rw[HI aB];simp
 obtain⟨l1,xG⟩:∃l1,l1=w.heap.size+1:=⟨_,rfl⟩
 obtain⟨D,hD⟩:∃D,D=w.heap.size:=⟨_,rfl⟩
 rw[<-xG]at akl;rw[<-hD]at akm;have aM9:W.heap.size<=w.heap.size:=hs.c.a;refine⟨l1,[{target:=.collected D,args:= #[]}],W4,{target:=.fn (.func 126) q,args:= #[.func (.yield l1) #[] #[]]},W4,126,#[.func (.yield l1) #[] #[]]++q,W4,?_,?_,?_,?_,(λh=>absurd h (by simp[Fence.wide])),?_⟩
 ·rw[<-IK,ga,xG,hD];exact run_enterLoop_outer _ _ _ _ _
 ·have e8:a1.eval (.tmp 8)=.func (.func 126) #[] q:=hs.g;simp only[resolve,e8];simp[go_sem]
 ·intro f' _;trivial
 ·simp[invoke,go_sem,ac2]
 have jw:=acJ (a:=a) (b:=b) (c:=c) (e:=e) hL (kn:=kn-1) (O:=cS O Rz) (w:=w) (lb:=q) IJ.a IJ.c (II▸hs.h);refine(jw l1
  (λk Rin X=>∃R1,J k R1 X/\kI (cS O Rz) w (cS O R1) X/\X.heap[l1]? =some (.loop (rec .ready none))/\X.heap[D]? =some (.deferred (some []))/\¬cS O R1 l1/\¬cS O R1 D/\(∀b',R1 b'->Rz b'\/Rin b')/\Rin l1)
  (λX=>Jx X/\X.heap[l1]? =some (.loop (rec .done (some .ret)))/\X.heap[D]? =some (.deferred (some [])))
  W4 (IL _) ?_ ?_ ?_ ?_).mono ?_
 ·rintro k Rin X Y ⟨R1,h1,h2,h3,h4,h5,h6,h7,h8⟩ jB;have j4:∀b',b'<W4.heap.size->b'<X.heap.size->Y.heap[b']? =X.heap[b']? :=λb' h h'=>by
   rcases jB.g b' h' with q1 | ⟨q1,_⟩
   ·exact q1
   ·omega
  have xH:l1<X.heap.size:=(Array.getElem?_eq_some_iff.1 h3).1;have Cf:D<X.heap.size:=(Array.getElem?_eq_some_iff.1 h4).1;refine⟨R1,hq _ _ _ _ h1 (jB.D ab),⟨eb h2.a jB.f,λb' hb' hz=>(j4 b' ab (dJ hb' h2.a)).trans (h2.e b' hb' hz),h2.c,λb' hz=>dJ (h2.d b' hz) jB.f⟩,?_,?_,h5,h6,h7,h8⟩
  ·rw[j4 l1 ab xH];exact h3
  ·rw[j4 D ab Cf];exact h4
 ·rintro X Y ⟨h1,h3,h4⟩ jB;have j4:∀b',b'<W4.heap.size->b'<X.heap.size->Y.heap[b']? =X.heap[b']? :=λb' h h'=>by
   rcases jB.g b' h' with q1 | ⟨q1,_⟩
   ·exact q1
   ·omega
  have xH:l1<X.heap.size:=(Array.getElem?_eq_some_iff.1 h3).1;have Cf:D<X.heap.size:=(Array.getElem?_eq_some_iff.1 h4).1;refine⟨NV _ _ h1 (jB.D ab),?_,?_⟩
  ·rw[j4 l1 ab xH];exact h3
  ·rw[j4 D ab Cf];exact h4
 ·rintro k Rin X xs args jP ⟨R1,hJ,hE,xH,Cf,EZ,E0,mF,N2⟩ cN;rw[fX]at jP;cases N3:L[k]? with
  |none=>rw[N3]at jP;cases jP
  |some p=>
  rw[N3]at jP;simp only[jt,Option.some.injEq,aa.q.injEq]at jP;subst jP;obtain⟨cs,rfl,h9⟩:=bH p (eg N3);obtain⟨x9,r9,rfl,aLL,aLM⟩:=cN;have aLN:r9=[]:=aLM;subst aLN;obtain⟨bb,oo,l9,rfl,It,ake,IH,eo⟩:=aLL;have cC:l1<X.heap.size:=(Array.getElem?_eq_some_iff.1 xH).1;have YC:D<X.heap.size:=(Array.getElem?_eq_some_iff.1 Cf).1;have jy:=run_yield (P:=prog) (args:=[Value.pointer (some ⟨bb,oo,none⟩)].toArray) xH (by rw[ga];rfl);refine⟨_,_,_,_,jy,?_⟩;have xC:(rec .ready none).assign=Si/\(rec .ready none).body=F9:=by rw[ga];exact⟨rfl,rfl⟩
  have NK:(((rec .ready none).params.zip [Value.pointer (some ⟨bb,oo,none⟩)].toArray).foldl (λtmps (p:Tmp×Value)=>tmps.setIfInBounds p.1 p.2) (rec .ready none).tmps)=a1.tmps.setIfInBounds 9 (.pointer (some ⟨bb,oo,none⟩)):=by rw[ga];rw[<-HJ,Array.toList_zip];rfl
  rw[NK,xC.1,xC.2];refine roundIn_of_wpIn trivial ?_;show(Code.region 3 (fG 3) false).wpIn _ _ _ _ _ _;refine cT ?_;rw[apV,wpOpsIn_cons];obtain⟨a2,tT⟩:∃a2:Act,a2={tmps:=a1.tmps.setIfInBounds 9 (.pointer (some ⟨bb,oo,none⟩)),defers:=[]}:=⟨_,rfl⟩
  rw[<-tT];have e9:a2.eval (.tmp 9)=.pointer (some ⟨bb,oo,none⟩):=by show a2.tmps.getD 9 undef=_;rw[tT];simp only[fh];rw[Nj (by rw[hs.d];decide)];rfl
  have sz2:a2.tmps.size=22:=by rw[tT];simpa using hs.d
  have t22:a2.tmps.getD 2 undef=.pointer (some ⟨b2,0,none⟩):=by rw[tT];simp only[fh];rw[EB av];have:=hs.f;simpa[fh] using this
  have df2:a2.defers=[]:=by rw[tT]
  clear tT;refine Sk (x:=.pointer (some ⟨bb,oo,none⟩)) (λf=>trivial) Gb.1 Gb.2.2.2 (λc hc=>by rw[Gb.2.1]at hc;cases hc) (by rw[<-e9];simp[execOp,Gb.2.1]) ?_;obtain⟨p3,p3'⟩:=ux (a:=a2) Gb.2.2.1 (by rw[sz2];decide) (.pointer (some ⟨bb,oo,none⟩));refine⟨_,run_beginRound xH (by rw[ga]),?_⟩;obtain⟨W5,IM⟩:∃W5,W5=X.putObj l1 (.loop {rec .ready none with state:=.busy}):=⟨_,rfl⟩
  rw[<-IM];have akn:∀B',B'<=l1->cc B' X W5:=λB' hB'=>by rw[IM];exact cc.I xH hB' _
  have aM_:W5.heap.size=X.heap.size:=by rw[IM];simp
  have r8:∀b',b'≠l1->W5.heap[b']? =X.heap[b']? :=λb' h=>by rw[IM];exact oe h
  have NX:W5.heap[l1]? =some (.loop {rec .ready none with state:=.busy}):=by rw[IM];exact zn cC
  have j6:bb≠l1:=λe=>ake (e▸ .inr N2);have aLO:b2≠l1:=by have:=hs.b.2;omega
  have aLP:W5.heap[b2]? =some (.cells #[.func (.yield l) #[] #[]] 159):=by rw[r8 b2 aLO,hE.e b2 hs.b.2 aLJ];exact hs.i
  have aLQ:dH W5 bb oo l9:=IH.V (r8 bb j6);have aLR:aF aJ W5 (λb'=>O b'\/R1 b') cs bh l9:=by
   have h1:aF aJ W5 (λb'=>cS O Rz b'\/Rin b') cs bh l9:=aF.qc (akn l1 (bj _)) _ _ _ eo;exact aF.D (cz.D (λb' hb'=>by
    rcases hb' with h |h
    ·exact .inl (.inl h)
    ·rcases mF b' h with h |h
     ·exact .inl (.inr h)
     ·exact .inr h)) _ _ _ _ (λ_ _ h=>h) h1
  refine ap3 (J:=J) (Jx:=Jx) (items:=L.map Ga) (B:=W.heap.size) (b2:=b2) (kn:=kn) (k:=k) (l:=l) (l1:=l1) hy h9 (by rw[fX,N3];rfl) (hq _ _ _ _ hJ (akn _ ab)) hq aLQ aLR aLP (by rw[fS];exact sz2) (by rw[jT];exact df2) ((p3' 2 ab).trans t22) p3 (λa' Y hY=> ?_) (λa' Y hY=> ?_)
  ·obtain⟨R',hJ',jf⟩:=hY;have j4:∀b',b'<X.heap.size->¬O b'->¬R1 b'->Y.heap[b']? =W5.heap[b']? :=λb' h1 h2 h3=>jf.e b' (by show b'<W5.heap.size;omega) h2 h3;have IN:Y.heap[l1]? =some (.loop {rec .ready none with state:=.busy}):=(j4 l1 cC (λh=>EZ (.inl h)) (λh=>EZ (.inr h))).trans NX;have E1:X.heap.size<=Y.heap.size:=by have:W5.heap.size<=Y.heap.size:=jf.a;omega
   have Y4:Y.heap[D]? =some (.deferred (some [])):=by rw[j4 D YC (λh=>E0 (.inl h)) (λh=>E0 (.inr h)),r8 D ab];exact Cf
   have rY:({rec .ready none with state:=.ready,pending:=none}:Loop)=rec .ready none:=by rw[ga]
   have eC:=HQ (P:=prog) none IN;have H6:({({rec .ready none with state:=.busy}:Loop)with state:=if(none:Option Code).isNone then LoopState.ready else .done,pending:=none}:Loop)=rec .ready none:=by rw[ga];rfl
   rw[H6]at eC;refine⟨_,_,eC,.inl ⟨rfl,λb'=>Rin b'\/(R' b'/\X.heap.size<=b'),⟨R',hq _ _ _ _ hJ' (cc.I IN ab _),?_,?_,?_,?_,?_,?_,.inl N2⟩,?_⟩⟩
   ·refine Kp hE ⟨by simpa using E1,λb' hb' hz=> ?_,λb' hz=> ?_,λb' hz=> ?_⟩
    ·by_cases h:b'=l1
     ·subst h;rw[zn ab,xH]
     ·rw[oe h,j4 b' hb' (λh=>hz (.inl h)) (λh=>hz (.inr h)),r8 b' h]
    ·rcases hz with hz |hz
     ·exact .inl (.inl hz)
     ·rcases jf.c b' hz with h |h
      ·exact .inl (.inr h)
      ·exact .inr (by have h:W5.heap.size<=b':=h;omega)
    ·rw[show(Y.putObj l1 (.loop (rec .ready none))).heap.size=Y.heap.size from aB];rcases hz with hz |hz
     ·exact dJ (hE.d b' (.inl hz)) E1
     ·rcases jf.d b' hz with h |h
      ·exact dJ (hE.d b' (.inr h)) E1
      ·exact h
   ·exact zn ab
   ·rw[oe ab];exact Y4
   ·rintro(h |h)
    ·exact EZ (.inl h)
    ·rcases jf.c l1 h with h |h
     ·exact EZ (.inr h)
     ·have h:W5.heap.size<=l1:=h;omega
   ·rintro(h |h)
    ·exact E0 (.inl h)
    ·rcases jf.c D h with h |h
     ·exact E0 (.inr h)
     ·have h:W5.heap.size<=D:=h;omega
   ·intro b' h;rcases jf.c b' h with h1 |h1
    ·exact(mF b' h1).imp id .inl
    ·exact .inr (.inr ⟨h,by have h1:W5.heap.size<=b':=h1;omega⟩)
   ·refine⟨by simpa using E1,λb' hb' hz hr=> ?_,λb' hb'=>hb'.imp id And.right,λb' hb'=> ?_⟩
    ·have bL:b'≠l1:=λe=>hr (e▸N2);rw[oe bL,j4 b' hb' (λh=>hz (.inl h)) (λh=>by
      rcases mF b' h with h |h
      ·exact hz (.inr h)
      ·exact hr h),r8 b' bL]
    ·rcases hb' with h | ⟨h,h'⟩
     ·exact .inl h
     ·refine .inr ?_;rw[show(Y.putObj l1 (.loop (rec .ready none))).heap.size=Y.heap.size from aB];rcases jf.d b' h with h1 |h1
      ·have:=hE.d b' (.inr h1);omega
      ·exact h1
  ·obtain⟨tP,R',jf⟩:=hY;have j4:∀b',b'<X.heap.size->¬O b'->¬R1 b'->Y.heap[b']? =W5.heap[b']? :=λb' h1 h2 h3=>jf.e b' (by show b'<W5.heap.size;omega) h2 h3;have IN:Y.heap[l1]? =some (.loop {rec .ready none with state:=.busy}):=(j4 l1 cC (λh=>EZ (.inl h)) (λh=>EZ (.inr h))).trans NX;have E1:X.heap.size<=Y.heap.size:=by have:W5.heap.size<=Y.heap.size:=jf.a;omega
   have Y4:Y.heap[D]? =some (.deferred (some [])):=by rw[j4 D YC (λh=>E0 (.inl h)) (λh=>E0 (.inr h)),r8 D ab];exact Cf
   have eC:=HQ (P:=prog) (some .ret) IN;have H6:({({rec .ready none with state:=.busy}:Loop)with state:=if(some Code.ret:Option Code).isNone then LoopState.ready else .done,pending:=some .ret}:Loop)=rec .done (some .ret):=by rw[ga];rfl
   rw[H6]at eC;refine⟨_,_,eC,.inr ⟨rfl,⟨NV _ _ tP (cc.I IN ab _),zn ab,?_⟩,λb'=>Rin b'\/(R' b'/\X.heap.size<=b'),?_⟩⟩
   ·rw[oe ab];exact Y4
   ·refine⟨by simpa using E1,λb' hb' hz hr=> ?_,λb' hb'=>hb'.imp id And.right,λb' hb'=> ?_⟩
    ·have bL:b'≠l1:=λe=>hr (e▸N2);rw[oe bL,j4 b' hb' (λh=>hz (.inl h)) (λh=>by
      rcases mF b' h with h |h
      ·exact hz (.inr h)
      ·exact hr h),r8 b' bL]
    ·rcases hb' with h | ⟨h,h'⟩
     ·exact .inl h
     ·refine .inr ?_;rw[show(Y.putObj l1 (.loop (rec .done (some .ret)))).heap.size=Y.heap.size from aB];rcases jf.d b' h with h1 |h1
      ·have:=hE.d b' (.inr h1);omega
      ·exact h1
 ·refine⟨Rz,hq _ _ _ _ (hq _ _ _ _ IG hs.c.U) (IL _),⟨(IL 0).f,λb' hb' _=>by
   rcases(IL w.heap.size).g b' hb' with h | ⟨h,_⟩
   ·exact h
   ·omega,λb' h=>.inl h,λb' h=>dJ (IJ.a b' h) (IL 0).f⟩,akl,akm,λh=>by have:=IJ.a _ h;omega,λh=>by have:=IJ.a _ h;omega,λb' h=>.inl h,⟨ab,ab⟩⟩
 ·rintro en Y ⟨⟨v,rfl⟩,hY⟩;have fin:∀(rc:Loop)(a':Act),a'.defers=[{target:=.collected D,args:= #[]}]->Y.heap[l1]? =some (.loop rc)->Y.heap[D]? =some (.deferred (some []))->((∃R,J L.length R Y)\/Jx Y)->∀o',LeavesInM Fence.wide kn prog f92 a'.tmps (λe Y=>(∃v,e=.returned v)/\((∃R,J (L.map Ga).length R Y)\/Jx Y)) a'.defers .returning (Y.putObj l1 (.loop o')):=by
   intro rc a' tR hl hd hh o';rw[tR];have aM':l1<Y.heap.size:=(Array.getElem?_eq_some_iff.1 hl).1;refine⟨aB,.inl ⟨D,_,rfl,run_takeDeferred (by rw[oe ab];exact hd),?_⟩⟩;refine⟨.tuple #[],by simp[results],⟨_,rfl⟩,?_⟩;have q1:cc W.heap.size Y (Y.putObj l1 (.loop o')):=cc.I hl ab _;have q2:∀o'',cc W.heap.size (Y.putObj l1 (.loop o')) ((Y.putObj l1 (.loop o')).putObj D o''):=λo''=>cc.abb (by rw[oe ab];exact hd) ab _;rw[gR];rcases hh with⟨R,hh⟩ |hh
   ·exact .inl ⟨R,hq _ _ _ _ hh (q1.Fo (q2 _))⟩
   ·exact .inr (NV _ _ hh (q1.Fo (q2 _)))
  rcases hY with⟨R,R1,hj,hE,hl,hd,_⟩ | ⟨hj,hl,hd⟩
  ·refine⟨none,_,by have:=Nc (P:=prog) hl (by rw[ga];simp);rw[this,ga],?_⟩;exact fin _ _ (by show _++a1.defers=_;rw[hs.e];rfl) hl hd (.inl ⟨R1,by simpa using hj⟩) _
  ·refine⟨some .ret,_,by have:=Nc (P:=prog) hl (by rw[ga];simp);rw[this,ga],?_⟩;exact vd (fin _ _ (by show _++a1.defers=_;rw[hs.e];rfl) hl hd (.inr hj) _)
end
end Go.Proofs.YtkcikbcpjdccmaaGreatDoor
namespace Go.Proofs.YtkcikbcpjdccmaaGreatDoor
open Go Go.AH Go.RowKit Go.Proofs.Tryz
open Go.IntKind (i64)
set_option maxRecDepth 10000
noncomputable section
set_option maxHeartbeats 400000 in
def ap5(a:Option Addr)(cap:Nat)(w):Calls prog 20 #[.slice a 0 cap] w λe w'=>(∃a' c',e=.returned (.slice a' 0 c'))/\Below w.heap.size w w':=by
 go_enter func20,ntmps20
 cases a with
 |none=>
  go_wp2
  rw[kJ underlying46]
  go_wp2
  refine kZ (v:=.slice none 0 0) ?_ rfl ⟨⟨_,_,rfl⟩,pN _ _⟩;simp[results,results20,go_sem]
 |some ad=>
  go_wp2
  rw[kJ underlying46]
  go_wp2
  refine kZ (v:=.slice (some ⟨w.heap.size,0,none⟩) 0 0) ?_ rfl ⟨⟨_,_,rfl⟩,(pN _ _).alloc (bj _) _⟩;simp[results,results20,go_sem]
set_option maxHeartbeats 400000 in
def ap6(ad:Option Addr)(n cap:Nat)(w w' r)(_:n≠0)(jz:ad.isNone=false)(bm:(Builtin.append_ #[46,46] 46 #[.slice (some ⟨w.heap.size,0,none⟩) 0 0,.slice ad n cap]).run prog (w.alloc (.cells #[] 3))=.ok r w'):Calls prog 20 #[.slice ad n cap] w λe w''=>e=.returned r/\w''=w':=by
 go_enter func20,ntmps20
 cases ad with
 |none=>cases jz
 |some ad=>
  go_wp2
  rw[kJ underlying46]
  go_wp2_with (refine Ad rfl (.tmp 5) (.tmp 6) _ rfl rfl rfl bm ?_)
  refine kZ (v:=r) ?_ rfl ⟨rfl,rfl⟩;simp[results,results20,go_sem]
def ac3:ck aJ cO prog 20 (kH 3):=
 yf aW (f:=20) (fn:=f20) (t:=46) (ty:=46) func20 rfl rfl ap5 underlying46 ae ap6
set_option maxHeartbeats 400000 in
def ap7(a:Option Addr)(cap:Nat)(w):Calls prog 22 #[.slice a 0 cap] w λe w'=>(∃a' c',e=.returned (.slice a' 0 c'))/\Below w.heap.size w w':=by
 go_enter func22,ntmps22
 cases a with
 |none=>
  go_wp2
  rw[kJ underlying54]
  go_wp2
  refine kZ (v:=.slice none 0 0) ?_ rfl ⟨⟨_,_,rfl⟩,pN _ _⟩;simp[results,results22,go_sem]
 |some ad=>
  go_wp2
  rw[kJ underlying54]
  go_wp2
  refine kZ (v:=.slice (some ⟨w.heap.size,0,none⟩) 0 0) ?_ rfl ⟨⟨_,_,rfl⟩,(pN _ _).alloc (bj _) _⟩;simp[results,results22,go_sem]
set_option maxHeartbeats 400000 in
def ap8(ad:Option Addr)(n cap:Nat)(w w' r)(_:n≠0)(jz:ad.isNone=false)(bm:(Builtin.append_ #[54,54] 54 #[.slice (some ⟨w.heap.size,0,none⟩) 0 0,.slice ad n cap]).run prog (w.alloc (.cells #[] 72))=.ok r w'):Calls prog 22 #[.slice ad n cap] w λe w''=>e=.returned r/\w''=w':=by
 go_enter func22,ntmps22
 cases ad with
 |none=>cases jz
 |some ad=>
  go_wp2
  rw[kJ underlying54]
  go_wp2_with (refine Ad rfl (.tmp 5) (.tmp 6) _ rfl rfl rfl bm ?_)
  refine kZ (v:=r) ?_ rfl ⟨rfl,rfl⟩;simp[results,results22,go_sem]
def ap9:ck aJ cO prog 22 (kH 72):=
 yf aW (f:=22) (fn:=f22) (t:=54) (ty:=54) func22 rfl rfl ap7 underlying54 ae ap8
set_option maxHeartbeats 400000 in
def ac4(a:Option Addr)(cap:Nat)(w):Calls prog 35 #[.slice a 0 cap] w λe w'=>(∃a' c',e=.returned (.slice a' 0 c'))/\Below w.heap.size w w':=by
 go_enter func35,ntmps35
 cases a with
 |none=>
  go_wp2
  rw[kJ underlying32]
  go_wp2
  refine kZ (v:=.slice none 0 0) ?_ rfl ⟨⟨_,_,rfl⟩,pN _ _⟩;simp[results,results35,go_sem]
 |some ad=>
  go_wp2
  rw[kJ underlying32]
  go_wp2
  refine kZ (v:=.slice (some ⟨w.heap.size,0,none⟩) 0 0) ?_ rfl ⟨⟨_,_,rfl⟩,(pN _ _).alloc (bj _) _⟩;simp[results,results35,go_sem]
set_option maxHeartbeats 400000 in
def ac5(ad:Option Addr)(n cap:Nat)(w w' r)(_:n≠0)(jz:ad.isNone=false)(bm:(Builtin.append_ #[32,32] 32 #[.slice (some ⟨w.heap.size,0,none⟩) 0 0,.slice ad n cap]).run prog (w.alloc (.cells #[] 43))=.ok r w'):Calls prog 35 #[.slice ad n cap] w λe w''=>e=.returned r/\w''=w':=by
 go_enter func35,ntmps35
 cases ad with
 |none=>cases jz
 |some ad=>
  go_wp2
  rw[kJ underlying32]
  go_wp2_with (refine Ad rfl (.tmp 5) (.tmp 6) _ rfl rfl rfl bm ?_)
  refine kZ (v:=r) ?_ rfl ⟨rfl,rfl⟩;simp[results,results35,go_sem]
def ap_:ck aJ cO prog 35 (yd 43):=
 PM aW (f:=35) (fn:=f35) (t:=32) (ty:=32) func35 rfl rfl ac4 underlying32 ae ac5
set_option maxHeartbeats 400000 in
def ac6(a:Option Addr)(cap:Nat)(w):Calls prog 39 #[.slice a 0 cap] w λe w'=>(∃a' c',e=.returned (.slice a' 0 c'))/\Below w.heap.size w w':=by
 go_enter func39,ntmps39
 cases a with
 |none=>
  go_wp2
  rw[kJ underlying40]
  go_wp2
  refine kZ (v:=.slice none 0 0) ?_ rfl ⟨⟨_,_,rfl⟩,pN _ _⟩;simp[results,results39,go_sem]
 |some ad=>
  go_wp2
  rw[kJ underlying40]
  go_wp2
  refine kZ (v:=.slice (some ⟨w.heap.size,0,none⟩) 0 0) ?_ rfl ⟨⟨_,_,rfl⟩,(pN _ _).alloc (bj _) _⟩;simp[results,results39,go_sem]
set_option maxHeartbeats 400000 in
def ac7(ad:Option Addr)(n cap:Nat)(w w' r)(_:n≠0)(jz:ad.isNone=false)(bm:(Builtin.append_ #[40,40] 40 #[.slice (some ⟨w.heap.size,0,none⟩) 0 0,.slice ad n cap]).run prog (w.alloc (.cells #[] 101))=.ok r w'):Calls prog 39 #[.slice ad n cap] w λe w''=>e=.returned r/\w''=w':=by
 go_enter func39,ntmps39
 cases ad with
 |none=>cases jz
 |some ad=>
  go_wp2
  rw[kJ underlying40]
  go_wp2_with (refine Ad rfl (.tmp 5) (.tmp 6) _ rfl rfl rfl bm ?_)
  refine kZ (v:=r) ?_ rfl ⟨rfl,rfl⟩;simp[results,results39,go_sem]
def ap':ck aJ cO prog 39 (kH 101):=
 yf aW (f:=39) (fn:=f39) (t:=40) (ty:=40) func39 rfl rfl ac6 underlying40 ae ac7
set_option maxHeartbeats 400000 in
def ac8(a:Option Addr)(cap:Nat)(w):Calls prog 68 #[.slice a 0 cap] w λe w'=>(∃a' c',e=.returned (.slice a' 0 c'))/\Below w.heap.size w w':=by
 go_enter func68,ntmps68
 cases a with
 |none=>
  go_wp2
  rw[kJ underlying41]
  go_wp2
  refine kZ (v:=.slice none 0 0) ?_ rfl ⟨⟨_,_,rfl⟩,pN _ _⟩;simp[results,results68,go_sem]
 |some ad=>
  go_wp2
  rw[kJ underlying41]
  go_wp2
  refine kZ (v:=.slice (some ⟨w.heap.size,0,none⟩) 0 0) ?_ rfl ⟨⟨_,_,rfl⟩,(pN _ _).alloc (bj _) _⟩;simp[results,results68,go_sem]
set_option maxHeartbeats 400000 in
def ac9(ad:Option Addr)(n cap:Nat)(w w' r)(_:n≠0)(jz:ad.isNone=false)(bm:(Builtin.append_ #[41,41] 41 #[.slice (some ⟨w.heap.size,0,none⟩) 0 0,.slice ad n cap]).run prog (w.alloc (.cells #[] 97))=.ok r w'):Calls prog 68 #[.slice ad n cap] w λe w''=>e=.returned r/\w''=w':=by
 go_enter func68,ntmps68
 cases ad with
 |none=>cases jz
 |some ad=>
  go_wp2
  rw[kJ underlying41]
  go_wp2_with (refine Ad rfl (.tmp 5) (.tmp 6) _ rfl rfl rfl bm ?_)
  refine kZ (v:=r) ?_ rfl ⟨rfl,rfl⟩;simp[results,results68,go_sem]
def aqa:ck aJ cO prog 68 (yd 97):=
 PM aW (f:=68) (fn:=f68) (t:=41) (ty:=41) func68 rfl rfl ac8 underlying41 ae ac9
set_option maxHeartbeats 400000 in
def ac_(a:Option Addr)(cap:Nat)(w):Calls prog 110 #[.slice a 0 cap] w λe w'=>(∃a' c',e=.returned (.slice a' 0 c'))/\Below w.heap.size w w':=by
 go_enter func110,ntmps110
 cases a with
 |none=>
  go_wp2
  rw[kJ underlying95]
  go_wp2
  refine kZ (v:=.slice none 0 0) ?_ rfl ⟨⟨_,_,rfl⟩,pN _ _⟩;simp[results,results110,go_sem]
 |some ad=>
  go_wp2
  rw[kJ underlying95]
  go_wp2
  refine kZ (v:=.slice (some ⟨w.heap.size,0,none⟩) 0 0) ?_ rfl ⟨⟨_,_,rfl⟩,(pN _ _).alloc (bj _) _⟩;simp[results,results110,go_sem]
set_option maxHeartbeats 400000 in
def ac'(ad:Option Addr)(n cap:Nat)(w w' r)(_:n≠0)(jz:ad.isNone=false)(bm:(Builtin.append_ #[95,95] 95 #[.slice (some ⟨w.heap.size,0,none⟩) 0 0,.slice ad n cap]).run prog (w.alloc (.cells #[] 177))=.ok r w'):Calls prog 110 #[.slice ad n cap] w λe w''=>e=.returned r/\w''=w':=by
 go_enter func110,ntmps110
 cases ad with
 |none=>cases jz
 |some ad=>
  go_wp2
  rw[kJ underlying95]
  go_wp2_with (refine Ad rfl (.tmp 5) (.tmp 6) _ rfl rfl rfl bm ?_)
  refine kZ (v:=r) ?_ rfl ⟨rfl,rfl⟩;simp[results,results110,go_sem]
def aqb:ck aJ cO prog 110 (yd 177):=
 PM aW (f:=110) (fn:=f110) (t:=95) (ty:=95) func110 rfl rfl ac_ underlying95 ae ac'
set_option maxHeartbeats 400000 in
def aqc(a:Option Addr)(cap:Nat)(w):Calls prog 135 #[.slice a 0 cap] w λe w'=>(∃a' c',e=.returned (.slice a' 0 c'))/\Below w.heap.size w w':=by
 go_enter func135,ntmps135
 cases a with
 |none=>
  go_wp2
  rw[kJ underlying170]
  go_wp2
  refine kZ (v:=.slice none 0 0) ?_ rfl ⟨⟨_,_,rfl⟩,pN _ _⟩;simp[results,results135,go_sem]
 |some ad=>
  go_wp2
  rw[kJ underlying170]
  go_wp2
  refine kZ (v:=.slice (some ⟨w.heap.size,0,none⟩) 0 0) ?_ rfl ⟨⟨_,_,rfl⟩,(pN _ _).alloc (bj _) _⟩;simp[results,results135,go_sem]
set_option maxHeartbeats 400000 in
def aqd(ad:Option Addr)(n cap:Nat)(w w' r)(_:n≠0)(jz:ad.isNone=false)(bm:(Builtin.append_ #[170,170] 170 #[.slice (some ⟨w.heap.size,0,none⟩) 0 0,.slice ad n cap]).run prog (w.alloc (.cells #[] 4))=.ok r w'):Calls prog 135 #[.slice ad n cap] w λe w''=>e=.returned r/\w''=w':=by
 go_enter func135,ntmps135
 cases ad with
 |none=>cases jz
 |some ad=>
  go_wp2
  rw[kJ underlying170]
  go_wp2_with (refine Ad rfl (.tmp 5) (.tmp 6) _ rfl rfl rfl bm ?_)
  refine kZ (v:=r) ?_ rfl ⟨rfl,rfl⟩;simp[results,results135,go_sem]
def Sm:ck aJ cO prog 135 (kH 4):=
 yf aW (f:=135) (fn:=f135) (t:=170) (ty:=170) func135 rfl rfl aqc underlying170 ae aqd
end
end Go.Proofs.YtkcikbcpjdccmaaGreatDoor
namespace Go.Proofs.YtkcikbcpjdccmaaGreatDoor
open Go Go.AH Go.RowKit Go.Proofs.Tryz
open Go.IntKind (i64)
set_option maxRecDepth 100000
noncomputable section
def an:eH:={Kk with e:=λ_ _=>.d}
def aR:∀f d,an.c f=some d->iB prog an f d:=λf d h=>⟨(F0 f d h).c,(F0 f d h).b,(F0 f d h).h,(F0 f d h).e,(F0 f d h).a⟩
def ada:ck aJ cO prog 159 rk:=anF func159 ae ae ae ae
def adb:ck aJ cO prog 79 FK:=anG func79 ae ae ae ae
def aqe:acg.I λf M=>ck aJ cO prog f M:=⟨aqa,⟨ap_,⟨ap9,⟨ac3,trivial,trivial⟩,trivial⟩,⟨ap',trivial,trivial⟩⟩,⟨Sm,⟨aqb,⟨adb,trivial,trivial⟩,trivial⟩,⟨ada,trivial,trivial⟩⟩⟩
def aqf:∀f M,an.f f=some M->ck an.a an.b prog f M:=λf M h=>iR.I.D aqe f M h
def c_:sF prog an:=λC hC d fuel k=>anj (λf eN=>by cases k<;>rfl)
def bI{C:FuncId->aq}{d:AH.dQ}{f:FuncId}{M:aq}(hC:∀f,ck an.a an.b prog f (C f))(ok:iB prog an f d)(h:∀args ao out,(M args ao).D=some out->(aI (ay an C d aK) d.b d.a args ao).D=some out)(h0:d.c=0:=by kernel_rfl):ck an.a an.b prog f M:=dN aW c_ hC ok h0 cv h
def pX{C:FuncId->aq}{d:AH.dQ}{f:FuncId}{M:aq}(hC:∀f,ck an.a an.b prog f (C f))(ok:iB prog an f d)(h:∀args ao out,(M args ao).D=some out->dO (aI (ay an C d aK) d.b d.a args ao) out)(h0:d.c=0:=by kernel_rfl):ck an.a an.b prog f M:=yi aW c_ hC ok h0 cv h
def AJ(n:Nat)(f:FuncId):ck aJ cO prog f (sE an 300 n f):=abC (g:=an) aW aqf aR c_ 300 n f
def aqg:=aR 72 PZ ae
def aqh:=aR 76 P0 ae
def aqi:=aR 74 P1 ae
def KR:=aR 73 sL ae
abbrev aH(f:FuncId)(M:aq):Prop:=ck aJ cO prog f M
def yy(c:Int):Bool:=decide (65<=c) &&decide (c<=90) ||decide (97<=c) &&decide (c<=122)
def qo(c:Int):Bool:=decide (48<=c) &&decide (c<=57)
def kh(c:Int):Bool:=yy c ||qo c ||c==95
def KS:aq| [.c .u8 c],[]=>.g (.a (.p (yy c)) []) |_,_=>.d
def Gc:aq| [.c .u8 c],[]=>.g (.a (.p (qo c)) []) |_,_=>.d
def KT:aq| [.c .u8 c],[]=>.g (.a (.p (kh c)) []) |_,_=>.d
def aqj(c):(aI (ay an (aL []) PZ aK) false f72 [.c .u8 c] []).D=((af.c (decide (c>=65)) (.c (!decide (c<=90)) (.c (decide (c>=97)) (al (.p (decide (c<=122))) []) (al (.p false) [])) (al (.p true) [])) (.c (decide (c>=97)) (al (.p (decide (c<=122))) []) (al (.p false) [])))).D:=ae
def ade:aH 72 KS:=bI aQ aqg λp q r h=>by
 unfold KS at h;split at h
 ·refine(aqj _).trans (bS ?_ h);rename_i c;simp only[dA,fU,yy];by_cases h1:65<=c<;>by_cases h2:c<=90<;>by_cases h3:97<=c<;>simp[h1,h2,h3]
 ·cases h
def aqk(c):(aI (ay an (aL []) P0 aK) false f76 [.c .u8 c] []).D=((af.c (decide (c>=48))
 (.g (aC.a (aa.p (decide (c<=57))) []))
 (.g (aC.a (aa.p false) [])))).D:=ae
def Sn:aH 76 Gc:=bI aQ aqh λp q r h=>by
 unfold Gc at h;split at h
 ·refine(aqk _).trans (bS ?_ h);rename_i c;simp only[dA,fU,qo];by_cases h1:48<=c<;>simp[h1]
 ·cases h
def aql(c):(aI (ay an (aL [(72,KS),(76,Gc)]) P1 aK) false f74 [.c .u8 c] []).D=((af.c (!yy c) (.c (!qo c) (al (.p (c==95)) []) (al (.p true) [])) (al (.p true) []))).D:=ae
def adf:aH 74 KT:=bI (aA ade (aA Sn aQ)) aqi λp q r h=>by
 unfold KT at h;split at h
 ·refine(aql _).trans (bS ?_ h);rename_i c;simp only[dA,fU,kh];cases yy c<;>cases qo c<;>simp
 ·cases h
def AK:FuncId->aq:=aL [(74,KT),(76,Gc)]
def aqm:∀k,aH k (AK k):=aA adf (aA Sn aQ)
def aqn(s n):(cB (ay an AK sL aK) 0 2 (cq sL 0) [.h s,.z 74 [] [],ah n] []).D=((af.c (decide (n<(↑s.length:Int))) (.c (decide (0<=n) &&decide (n<(↑s.length:Int))) (.c (kh (↑(s.getD n.toNat 0).toNat:Int)) (.g ((.b,[.h s,.z 74 [] [],ah (i64.wrap (n+1))],[]))) (.g ((.a 0,[ah n],[])))) .d) (.g ((.a 0,[ah n],[]))))).D:=ae
def aqo(s n):(cB (ay an AK sL aK) 0 2 (cq sL 0) [.h s,.z 76 [] [],ah n] []).D=((af.c (decide (n<(↑s.length:Int))) (.c (decide (0<=n) &&decide (n<(↑s.length:Int))) (.c (qo (↑(s.getD n.toNat 0).toNat:Int)) (.g ((.b,[.h s,.z 76 [] [],ah (i64.wrap (n+1))],[]))) (.g ((.a 0,[ah n],[])))) .d) (.g ((.a 0,[ah n],[]))))).D:=ae
def Sp(q:FuncId)(p:Int->Bool)(s)(hs:s.length<=9223372036854775807)
  (bg:∀n:Int,(cB (ay an AK sL aK) 0 2 (cq sL 0) [.h s,.z q [] [],.c .i64 n] []).D=((af.c (decide (n<(↑s.length:Int)))
   (.c (decide ((0:Int)<=n) &&decide (n<(↑s.length:Int)))
    (.c (p (↑(s.getD n.toNat (0:UInt8)).toNat:Int)) (.g ((aU.b,[aa.h s,aa.z q [] [],aa.c IntKind.i64 (i64.wrap (n+(1:Int)))],[]))) (.g ((aU.a (nat_lit 0),[aa.c IntKind.i64 n],[]))))
    .d)
   (.g ((aU.a (nat_lit 0),[aa.c IntKind.i64 n],[])))):af (aU×List aa×List aj)).D):
  ∀(k n:Nat),n+k=s.length->bw an AK sL 0 2 [.h s,.z q [] [],.c .i64 n] [] (.a 0,[.c .i64 ((n+gi p (s.drop n):Nat):Int)],[])
 |0,n,h=>by
  refine bw.D KR 0 ae ae cv ((bg n).trans ?_) (y:=(.a 0,[.c .i64 n],[])) ?_
  ·simp only[dA,fU];rw[if_neg (by simp;omega)]
  ·rw[tz ab];rfl
 |k+1,n,h=>by
  have hn:n<s.length:=ab;have hd:s.drop n=s[n]::s.drop (n+1):=oY hn;have hg:s.getD n 0=s[n]:=by rw[dD,cV hn];rfl
  cases hp:p (s[n].toNat)with
  |true=>
   refine bw.D KR 0 ae ae cv ((bg n).trans ?_) (y:=(.b,[.h s,.z q [] [],.c .i64 ((n+1:Nat):Int)],[])) ?_
   ·simp only[dA,fU,dE,hg,hp];rw[if_pos (by simpa using hn),if_pos (by simpa using hn),if_pos trivial,ep ab ab];rfl
   ·have:=Sp q p s hs bg k (n+1) ab;rw[hd,gi,hp];rw[show n+(gi p (s.drop (n+1))+1)=n+1+gi p (s.drop (n+1))from ab];exact this
  |false=>
   refine bw.D KR 0 ae ae cv ((bg n).trans ?_) (y:=(.a 0,[.c .i64 n],[])) ?_
   ·simp only[dA,fU,dE,hg,hp];rw[if_pos (by simpa using hn),if_pos (by simpa using hn)];rfl
   ·rw[hd,gi,hp];rfl
def mq(q:FuncId):Int->Bool:=match Nat.beq q 74 with |true=>kh |false=>qo
def Dj(q:FuncId):Bool:=Nat.beq q 74 ||Nat.beq q 76
def Sq:dk:=λm key vs os=>match vs,os with
 | [.h s,.z q [] [],.c .i64 0],[]=>.I (Dj q &&decide (s.length<=9223372036854775807) &&Nat.beq m 0 &&Nat.beq key 2) (.g (.a 0,[.c .i64 (gi (mq q) s:Nat)],[]))
 |_,_=>.d
def aqp:cJ an AK sL Sq:=by
 intro m key vs os r h;unfold Sq at h;split at h
 ·rename_i s q;obtain⟨h1,h2⟩:=aO h;simp only[au,bC,Dj,nh]at h1;obtain⟨⟨⟨hq,hs⟩,hm⟩,hk⟩:=h1;obtain rfl:=aV hm;obtain rfl:=aV hk;simp only[af.D,Option.some.injEq]at h2;subst h2;rcases hq with hq |hq
  ·obtain rfl:=aV hq;simpa[mq] using Sp _ kh s hs (aqn s) s.length 0 ab
  ·obtain rfl:=aV hq;simpa[mq] using Sp _ qo s hs (aqo s) s.length 0 ab
 ·simp[af.D]at h
def Sr:aq| [.h s,.z q [] []],[]=>.I (Dj q &&decide (s.length<=9223372036854775807)) (.g (.a (.c .i64 (gi (mq q) s:Nat)) [])) |_,_=>.d
def aqq(s q):(aI (ay an AK sL Sq) false f73 [.h s,.z q [] []] []).D=((af.c (Dj q &&decide (s.length<=cg) &&Nat.beq 0 0 &&Nat.beq 2 2) (al (ah (↑(gi (mq q) s):Int)) []) .d)).D:=ae
def aqr:aH 73 Sr:=dN aW c_ aqm KR rfl aqp λp q r h=>by
 unfold Sr at h;split at h
 ·obtain⟨h1,h2⟩:=aO h;refine(aqq _ _).trans ?_;rw[dA,if_pos (by simpa using h1)];exact h2
 ·cases h
def aqs:=aR 25 P2 ae
def aqt:=aR 44 P3 ae
def aqu:=aR 45 P4 ae
def Ss:=aR 81 Aj ae
def aqv(s):(aI (ay an (aL [(79,FK)]) P3 aK) false f44 [.h s,.h [10]] []).D=((af.g (aC.a (aa.c IntKind.i64 (↑(vV 10 s (0:Nat)):Int)) []))).D:=ae
def St:aq| [.h s,.h [10]],[]=>.g (.a (.c .i64 (vV 10 s 0)) []) |_,_=>.d
def aqw:aH 44 St:=bI (aA adb aQ) aqt λp q r h=>by
 unfold St at h;split at h
 ·exact(aqv _).trans h
 ·cases h
def adg(s c i):(cB (ay an (aL []) Aj aK) 0 2 (cq Aj 0) [.h s,.c .u8 c,ah i] []).D=((af.c (decide (i>=0)) (.c (decide (0<=i) &&decide (i<(↑s.length:Int))) (.c ((↑(s.getD i.toNat 0).toNat:Int)==c) (.g ((.c,[ah i],[]))) (.g ((.b,[.h s,.c .u8 c,ah (i64.wrap (i-1))],[])))) .d) (.g ((.a 0,[.m],[]))))).D:=ae
noncomputable def uy(c:Int)(s:List UInt8):Nat->Option Nat
 |0=>none
 |n+1=>bif ((s.getD n 0).toNat:Int)==c then some n else uy c s n
def adh(s:List UInt8)(c:Int)(hs:s.length<=bP):∀n,n<=s.length->bw an (aL []) Aj 0 2 [.h s,.c .u8 c,.c .i64 ((n:Int)-1)] [] (PO (uy c s n))
 |0,h=>by refine eB.V Ss 0 ae ae cv (adg s c _) (.sJ ?_ (.I rfl rfl));exact ly ab
 |n+1,h=>by
  have nq:bP=9223372036854775807:=rfl;have bg:=adg s c (((n+1:Nat):Int)-1);rw[show((n+1:Nat):Int)-1=(n:Int)from ab,ep ab ab,dE]at bg;rw[show((n+1:Nat):Int)-1=(n:Int)from ab];refine eB.V Ss 0 ae ae cv bg (.D (aD ab) (.D ?_ ?_))
  ·rw[aD (show(0:Int)<=(n:Int)from ab),aD (show(n:Int)<(s.length:Int)from ab)];rfl
  ·exact .U (λ_=>.I rfl rfl) λ_=>.mR (adh s c hs n ab)
noncomputable def Su:dk:=λm_ key vs os=>match vs,os with
 | [.h s,.c .u8 c,.c .i64 i],[]=>.I (decide (s.length<=bP) &&decide (i=(s.length:Int)-1) &&Nat.beq m_ 0 &&Nat.beq key 2) (CU (uy c s s.length))
 |_,_=>.d
def aqx:cJ an (aL []) Aj Su:=by
 intro m_ key vs os r h;unfold Su at h;split at h
 ·rename_i s c i;obtain⟨h1,h2⟩:=aO h;simp only[au,bC,aNx]at h1;obtain⟨⟨⟨hs,rfl⟩,rfl⟩,rfl⟩:=h1;rw[FQ]at h2;cases h2;exact adh s c hs s.length (bj _)
 ·simp[af.D]at h
def aqy(s c):(aI (ay an (aL []) Aj Su) false f81 [.h s,.c .u8 c] []).D=((af.c (decide (s.length<=cg) &&decide (i64.wrap ((↑s.length:Int)-1)=(↑s.length:Int)-1) &&Nat.beq 0 0 &&Nat.beq 2 2) (.c ((uy c s s.length).isSome) (al (ah (↑((uy c s s.length).getD 0):Int)) []) (al (ah (-1:Int)) [])) .d)).D:=ae
noncomputable def Dk:aq| [.h s,.c .u8 c],[]=>.I (decide (s.length<=bP)) (.g (.a (.c .i64 (fH (uy c s s.length))) [])) |_,_=>.d
def aqz:aH 81 Dk:=dN aW c_ aQ Ss rfl aqx λp q r h=>by
 unfold Dk at h;split at h
 ·rename_i s c;obtain⟨h1,h2⟩:=aO h;have hs:s.length<=9223372036854775807:=ff h1;have bg:=aqy s c;rw[ep (n:=(s.length:Int)-1) ab ab]at bg;refine bg.trans (bS (aZ ?_ ?_) h2)
  ·rw[aD (show s.length<=nat_lit 9223372036854775807 from hs),aD rfl];rfl
  ·cases uy c s s.length<;>rfl
 ·cases h
def aqA(s c):(aI (ay an (aL [(81,Dk)]) P4 aK) false f45 [.h s,.c .u8 c] []).D=((af.c (decide (s.length<=nat_lit 9223372036854775807))
 (.g (aC.a (aa.c IntKind.i64 (fH (uy c s s.length))) []))
 .d)).D:=ae
def aqB:aH 45 Dk:=bI (aA aqz aQ) aqu λp q r h=>by
 unfold Dk at h;split at h
 ·exact(aqA _ _).trans h
 ·cases h
def Dl(a b:Int):aa:=.u [.c .i64 a,.c .i64 b]
def aqC(s n):(aI (ay an (aL [(44,St),(45,Dk)]) P2 aK) false f25 [.h s,ah n] []).D=((letI ai:af aC:=al (.q [.u [ah 0,ah 0],ah 3]) [];letI ak:=List.take (n.toNat-Int.toNat (0:Int)) (List.drop (Int.toNat (0:Int)) s);af.c (!decide (n<0)) (.c (decide (n>(↑s.length:Int))) ai (.c (decide ((0:Int)<=0) &&decide (0<=n) &&decide (n<=(↑s.length:Int))) (.c (decide (ak.length<=cg)) (al (.q [.u [ah (i64.wrap ((1:Int)+(↑(vV 10 ak 0):Int))),ah (i64.wrap (n-fH (uy 10 ak ak.length)))],ah 0]) []) .d) .d)) ai):af aC).D:=ae
def Sv(s:List UInt8)(n:Int):List UInt8:=List.take (n.toNat-Int.toNat 0) (List.drop (Int.toNat 0) s)
def gC(s:List UInt8)(n:Int):Int×Int:=bif decide (n<0) ||decide (n>(s.length:Int))then(0,0)else(i64.wrap (1+((vV 10 (Sv s n) 0:Nat):Int)),i64.wrap (n-fH (uy 10 (Sv s n) (Sv s n).length)))
noncomputable def Sw:aq| [.h s,.c .i64 n],[]=>.I (decide (s.length<=281474976710656)) (.g (.a (.q [Dl (gC s n).1 (gC s n).2,.c .i64 (bif decide (n<0) ||decide (n>(s.length:Int))then 3 else 0)]) [])) |_,_=>.d
def aqD:aH 25 Sw:=bI (aA aqw (aA aqB aQ)) aqs λp q r h=>by
 unfold Sw at h;split at h
 ·rename_i s n;obtain⟨h1,h2⟩:=aO h;have hs:s.length<=281474976710656:=ff h1;refine(aqC s n).trans (bS ?_ h2);unfold gC;refine eu (λh3=> ?_) λh3=> ?_
  ·have g3:=eS (nJ h3);rw[ly g3];refine eu (λh4=>by rw[h4];rfl) λh4=> ?_;have g4:=eS h4;rw[h4];refine aZ ?_ (aZ ?_ rfl)
   ·rw[aD (show 0<=n from ab),aD (show n<=(s.length:Int)from ab)];rfl
   ·refine aD ?_;rw[pM,tA];show _<=9223372036854775807;omega
  ·rw[mQ h3];rfl
 ·cases h
def aqE:=aR 111 P5 ae
def aqF:=aR 70 P6 ae
def aqG:=aR 112 P7 ae
def aqH:=aR 71 P8 ae
def adi:=aR 42 uk ae
def eX(s t:List UInt8):Bool:=decide (t.length<=s.length) && (s.take t.length==t)
def yz:aq| [.h s,.h t],[]=>.g (.a (.p (eX s t)) []) |_,_=>.d
def aqI(s t):(aI (ay an (aL []) P5 aK) false f111 [.h s,.h t] []).D=((af.c (decide ((↑s.length:Int)>=(↑t.length:Int))) (.c (decide ((0:Int)<=0) &&decide (0<=(↑t.length:Int)) &&decide ((↑t.length:Int)<=(↑s.length:Int))) (al (.p (List.take ((↑t.length:Int).toNat-Int.toNat (0:Int)) (List.drop (Int.toNat (0:Int)) s)==t)) []) .d) (al (.p false) []))).D:=ae
def adj:aH 111 yz:=bI aQ aqE λp q r h=>by
 unfold yz at h;split at h
 ·refine(aqI _ _).trans (bS ?_ h);rename_i s t;simp only[dA,fU,eX];by_cases h1:t.length<=s.length<;>simp[h1]
 ·cases h
def aqJ(s t):(aI (ay an (aL [(111,yz)]) P6 aK) false f70 [.h s,.h t] []).D=((af.g (aC.a (aa.p (eX s t)) []))).D:=ae
def adk:aH 70 yz:=bI (aA adj aQ) aqF λp q r h=>by
 unfold yz at h;split at h
 ·exact(aqJ _ _).trans h
 ·cases h
def aqK(s c):(aI (ay an (aL [(159,rk)]) P7 aK) false f112 [.h s,.c .u8 c] []).D=((af.c (decide (0<=c) &&decide (c<256))
 (.g (aC.a (aa.c IntKind.i64 (ka c.toNat s (0:Nat))) []))
 .d)).D:=ae
def aqL:aH 112 rk:=bI (aA ada aQ) aqG λp q r h=>by
 unfold rk at h;split at h
 ·exact(aqK _ _).trans h
 ·cases h
def aqM(s c):(aI (ay an (aL [(112,rk)]) P8 aK) false f71 [.h s,.c .u8 c] []).D=((af.c (decide (0<=c) &&decide (c<256))
 (.g (aC.a (aa.c IntKind.i64 (ka c.toNat s (0:Nat))) []))
 .d)).D:=ae
def adl:aH 71 rk:=bI (aA aqL aQ) aqH λp q r h=>by
 unfold rk at h;split at h
 ·exact(aqM _ _).trans h
 ·cases h
def Sx(c:Nat):∀(s:List UInt8)(i:Nat),0<=ka c s i->(i:Int)<=ka c s i/\ka c s i<i+s.length
 | [],i,h=>by simp[ka]at h
 |x::r,i,h=>by
  unfold ka at*;split
  ·simp;omega
  ·rename_i hx;rw[hx]at h;simp only at h;have:=Sx c r (i+1) h;simp;omega
def yA:FuncId->aq:=aL [(70,yz),(71,rk)]
def aqN:∀k,aH k (yA k):=aA adk (aA adl aQ)
def aqO(s n):(cB (ay an yA uk aK) 0 2 (cq uk 1) [.h s,ah n] []).D=((letI ai:=(↑s.length:Int);letI ak:=(↑(s.getD n.toNat 0).toNat:Int);letI aw:af (aU×List aa×List aj):=.g ((.b,[.h s,ah (i64.wrap (n+1))],[]));letI aS:=decide (0<=n) &&decide (n<=ai) &&decide (ai<=ai);letI bx:=List.take (ai.toNat-n.toNat) (List.drop n.toNat s);letI bX:=Int.toNat (10:Int);af.c (decide (n<ai)) (.c (decide (0<=n) &&decide (n<ai)) (.c (!ak==32) (.c (!ak==9) (.c (!ak==13) (.c (ak==10) aw (.c aS (.c (eX bx [47,47]) (.c aS (.c (decide (ka bX bx 0<0)) (.g ((.c,[ah ai,ah n],[]))) (.g ((.b,[.h s,ah (i64.wrap (n+ka bX bx 0))],[])))) .d) (.g ((.a 0,[.m,ah n],[])))) .d)) aw) aw) aw) .d) (.g ((.a 0,[.m,ah n],[])))):af (aU×List aa×List aj)).D:=ae
def Gd(s:List UInt8)(r:Bool×Nat):aU×List aa×List aj:=match r.1 with
 |true=>(.c,[.c .i64 (s.length:Int),.c .i64 (r.2:Int)],[])
 |false=>(.a 0,[.m,.c .i64 (r.2:Int)],[])
def lh(s:List UInt8):Nat->Nat->Bool×Nat
 |0,n=>(false,n)
 |f+1,n=>bif decide ((n:Int)<(s.length:Int))then(bif !((s.getD (n:Int).toNat 0).toNat:Int)==(32:Int)then(bif !((s.getD (n:Int).toNat 0).toNat:Int)==(9:Int)then(bif !((s.getD (n:Int).toNat 0).toNat:Int)==(13:Int)then(bif ((s.getD (n:Int).toNat 0).toNat:Int)==(10:Int)then lh s f (n+1)else
   bif eX (s.drop n) [47,47]then(bif decide (ka 10 (s.drop n) 0<(0:Int))then(true,n)else lh s f (n+(ka 10 (s.drop n) 0).toNat))else(false,n))else lh s f (n+1))else lh s f (n+1))else lh s f (n+1))else(false,n)
def iV{α:Type}{b:Bool}{x y:α}(h:b=true):(bif b then x else y)=x:=by subst h;rfl
def wq{α:Type}{b:Bool}{x y:α}(h:b=false):(bif b then x else y)=y:=by subst h;rfl
def aqP(s)(hs:s.length<=9223372036854775806):∀(k n:Nat),n+k=s.length->∃r:Bool×Nat,(n<=r.2/\r.2<=s.length/\∀f,k<=f->lh s f n=r)/\bw an yA uk 0 2 [.h s,.c .i64 n] [] (Gd s r):=by
 intro k;induction k using Nat.strongRecOn with
 |ind k ih=>
  intro n hk;have adv:∀j:Nat,0<j->n+j<=s.length->(∀f,0<k->lh s (f+1) n=lh s f (n+j))->∃r:Bool×Nat,(n<=r.2/\r.2<=s.length/\∀f,k<=f->lh s f n=r)/\Ae an yA uk 0 2 (.b,[.h s,.c .i64 (i64.wrap (n+(j:Int)))],[]) (Gd s r):=λj hj pT he=>by
   obtain⟨r,⟨h1,h2,h4⟩,h3⟩:=ih (k-j) ab (n+j) ab;refine⟨r,⟨ab,h2,λf hf=> ?_⟩,?_⟩
   ·obtain⟨g,rfl⟩:∃g,f=g+1:=⟨f-1,ab⟩
    rw[he g ab];exact h4 g ab
   ·rw[ep ab ab];exact h3
  refine bw.I adi 1 ae ae cv (dK.U (aqO s n) ?_);have ako:(∀f,k<=f->lh s f n=(false,n))->∃r:Bool×Nat,(n<=r.2/\r.2<=s.length/\∀f,k<=f->lh s f n=r)/\Ae an yA uk 0 2 (.a 0,[.m,.c .i64 (n:Int)],[]) (Gd s r):=λh=>⟨(false,n),⟨bj _,by show n<=_;omega,h⟩,rfl⟩
  refine dK.D (λh1=> ?_) (λh1=>.I (ako λf _=>by cases f with |zero=>rfl |succ f=>rw[lh,wq h1]));have hn:n<s.length:=by simpa using h1
  refine dK.D (λh2=> ?_) (λh2=>absurd h2 (by simp;omega));have one:=adv 1 ab ab;refine dK.D (λb1=> ?_) (λb1=>.I (one λf _=>by rw[lh,iV h1,wq b1]));refine dK.D (λb2=> ?_) (λb2=>.I (one λf _=>by rw[lh,iV h1,iV b1,wq b2]));refine dK.D (λb3=> ?_) (λb3=>.I (one λf _=>by rw[lh,iV h1,iV b1,iV b2,wq b3]));refine dK.D (λb4=>.I (one λf _=>by rw[lh,iV h1,iV b1,iV b2,iV b3,iV b4])) (λh10=> ?_);refine dK.D (λ_=> ?_) (λh3=>absurd h3 (by simp;omega));have Cg:List.take ((s.length:Int).toNat- (n:Int).toNat) (List.drop (n:Int).toNat s)=s.drop n:=by rw[dE,dE,pL aB]
  rw[Cg];have h0:∀f,k<=f->∃g,f=g+1:=λf hf=>⟨f-1,ab⟩
  refine dK.D (λh4=> ?_) (λb5=>.I (ako λf hf=>by obtain⟨g,rfl⟩:=h0 f hf;rw[lh,iV h1,iV b1,iV b2,iV b3,wq h10,wq b5]));refine dK.D (λ_=> ?_) (λh3=>absurd h3 (by simp;omega));refine dK.D (λh5=>.I ⟨(true,n),⟨bj _,by show n<=_;omega,λf hf=>by obtain⟨g,rfl⟩:=h0 f hf;rw[lh,iV h1,iV b1,iV b2,iV b3,wq h10,iV h4];exact iV h5⟩,rfl⟩) (λh5=>.I ?_);have h6:0<=ka 10 (s.drop n) 0:=by
   have:¬ka (Int.toNat 10) (s.drop n) 0<0:=by simpa using h5
   have e:Int.toNat 10=10:=rfl;rw[e]at this;omega
  have h7:=Sx 10 (s.drop n) 0 h6;have hd:s.drop n=s[n]::s.drop (n+1):=oY hn;have hg:s.getD n 0=s[n]:=by rw[dD,cV hn];rfl
  have h8:ka 10 (s.drop n) 0≠0:=λh0=>by
   rw[hd]at h0;unfold ka at h0;split at h0
   ·rename_i hx;rw[dE,hg]at h10;have:=aV hx;simp[this]at h10
   ·have:=Sx 10 (s.drop (n+1)) 1 (by simp at h0;omega);simp at h0;omega
  obtain⟨j,hj⟩:=HR h6;have:=adv j ab (by rw[tA]at h7;omega) (λf _=>by
   rw[lh,iV h1,iV b1,iV b2,iV b3,wq h10,iV h4];refine(wq h5).trans ?_;rw[hj];rfl)
  rw[show Int.toNat 10=10 from rfl,hj];exact this
def rA(s:List UInt8):Bool×Nat:=lh s s.length 0
def adm(s)(hs:s.length<=9223372036854775806):(rA s).2<=s.length/\bw an yA uk 0 2 [.h s,.c .i64 0] [] (Gd s (rA s)):=by obtain⟨r,⟨_,h1,h3⟩,h2⟩:=aqP s hs s.length 0 ab;have e:=h3 s.length (bj _);unfold rA;rw[e];exact⟨h1,h2⟩
def Sy:dk:=λm key vs os=>match vs,os with
 | [.h s,.c .i64 0],[]=>.I (decide (s.length<=9223372036854775806) &&Nat.beq m 0 &&Nat.beq key 2) (.c (rA s).1 (.g (.c,[.c .i64 (s.length:Int),.c .i64 ((rA s).2:Int)],[])) (.g (.a 0,[.m,.c .i64 ((rA s).2:Int)],[])))
 |_,_=>.d
def aqQ:cJ an yA uk Sy:=by
 intro m key vs os r h;unfold Sy at h;split at h
 ·rename_i s;obtain⟨h1,h2⟩:=aO h;simp only[au,bC,aNx]at h1;obtain⟨⟨hs,rfl⟩,rfl⟩:=h1;have h3:=(adm s hs).2;unfold Gd at h3;cases hb:(rA s).1<;>rw[hb]at h2 h3<;>simp only[af.D,Option.some.injEq]at h2<;>subst h2<;>exact h3
 ·simp[af.D]at h
def nP(s:List UInt8):Nat:=match(rA s).1 with |true=>s.length |false=>(rA s).2
def KU(s)(hs:s.length<=9223372036854775806):nP s<=s.length:=by have:=(adm s hs).1;unfold nP;split<;>omega
def Sz:aq| [.h s],[]=>.I (decide (s.length<=9223372036854775806)) (.g (.a (.c .i64 (nP s:Int)) [])) |_,_=>.d
def aqR(s):(aI (ay an yA uk Sy) false f42 [.h s] []).D=((af.c (decide (s.length<=9223372036854775806) &&Nat.beq 0 0 &&Nat.beq 2 2) (.c ((rA s).fst) (al (ah (↑s.length:Int)) []) (al (ah (↑(rA s).snd:Int)) [])) .d)).D:=ae
def aqS:aH 42 Sz:=dN aW c_ aqN adi rfl aqQ λp q r h=>by
 unfold Sz at h;split at h
 ·obtain⟨h1,h2⟩:=aO h;refine(aqR _).trans ?_;rw[<-h2];simp only[dA,fU];rw[if_pos (by simpa using h1)];unfold nP;cases(rA _).1<;>rfl
 ·cases h
def adn:=aR 152 C6 ae
def aqT:=aR 105 P9 ae
def aqU:=aR 75 P_ ae
def uz(t:List UInt8)(v:aa):Bool:=t==v.bJ
def aqV(vs t len n):(cB (ay an (aL []) C6 aK) 0 2 (cq C6 0) [.d 9 vs,.h t,ah len,ah n] []).D=((af.c (decide (n<len)) (.c (decide (0<=n) &&decide (n<(↑vs.length:Int))) (.c (t==(vs.getD n.toNat .m).bJ) (.g ((.c,[ah n],[]))) (.g ((.b,[.d 9 vs,.h t,ah len,ah (i64.wrap (n+1))],[])))) .d) (.g ((.a 0,[.m],[]))))).D:=ae
def SA:dk:=λm key vs os=>match vs,os with
 | [.d 9 vs,.h t,.c .i64 len,.c .i64 0],[]=>.I (decide (len=(vs.length:Int)) &&decide (vs.length<=bP) &&Nat.beq m 0 &&Nat.beq key 2) (CU (bc (uz t) vs 0))
 |_,_=>.d
def aqW:cJ an (aL []) C6 SA:=by
 intro m key vs os r h;unfold SA at h;split at h
 ·rename_i vs t len;obtain⟨h1,h2⟩:=aO h;simp only[au,bC,aNx]at h1;obtain⟨⟨⟨rfl,hs⟩,rfl⟩,rfl⟩:=h1;rw[FQ]at h2;injection h2 with h2;subst h2;exact FR adn 0 ae ae cv (λn=> [.d 9 vs,.h t,.c .i64 vs.length,.c .i64 n]) (uz t) vs hs (λn=>aqV vs t _ n) vs.length 0 ab
 ·simp[af.D]at h
def SB:aq| [.d 9 vs,.h t],[]=>.I (decide (vs.length<=bP)) (.g (.a (.c .i64 (fH (bc (uz t) vs 0))) [])) |_,_=>.d
def aqX(vs t):(aI (ay an (aL []) C6 SA) false f152 [.d 9 vs,.h t] []).D=((af.c (decide ((↑vs.length:Int)=(↑vs.length:Int)) &&decide (vs.length<=cg) &&Nat.beq 0 0 &&Nat.beq 2 2) (.c ((bc (uz t) vs 0).isSome) (al (ah (↑((bc (uz t) vs 0).getD 0):Int)) []) (al (ah (-1:Int)) [])) .d)).D:=ae
def aqY:aH 152 SB:=dN aW c_ aQ adn rfl aqW λp q r h=>by
 unfold SB at h;split at h
 ·obtain⟨h1,h2⟩:=aO h;refine(aqX _ _).trans ?_;rw[<-h2];simp only[dA,fU];rw[if_pos (by simpa using (show _<=9223372036854775807 from ff h1))];cases bc _ _ 0<;>rfl
 ·cases h
def KV:aq| [.d 9 vs,.h t],[]=>.I (decide (vs.length<=bP)) (.g (.a (.p (bc (uz t) vs 0).isSome) [])) |_,_=>.d
def aqZ(vs t):(aI (ay an (aL [(152,SB)]) P9 aK) false f105 [.d 9 vs,.h t] []).D=((af.c (decide (vs.length<=cg)) (al (.p (decide (fH (bc (uz t) vs 0)>=0))) []) .d)).D:=ae
def ado:aH 105 KV:=bI (aA aqY aQ) aqT λp q r h=>by
 unfold KV at h;split at h
 ·obtain⟨h1,h2⟩:=aO h;refine(aqZ _ _).trans ?_;rw[<-h2];simp only[dA,fU];rw[if_pos (by simpa using (show _<=9223372036854775807 from ff h1))];cases bc _ _ 0<;>simp[fH]
 ·cases h
def Ge(t:List UInt8):Bool:=(bc (uz t) (match cO 1 with | .A cs=>cs |_=> []) 0).isSome
def SC:aq| [.h t],[]=>.g (.a (.p (Ge t)) []) |_,_=>.d
def aq0(t):(aI (ay an (aL [(105,KV)]) P_ aK) false f75 [.h t] []).D=some (.a (.p (Ge t)) []):=ae
def aq1:aH 75 SC:=bI (aA ado aQ) aqU λp q r h=>by
 unfold SC at h;split at h
 ·exact(aq0 _).trans h
 ·cases h
end
end Go.Proofs.YtkcikbcpjdccmaaGreatDoor
namespace Go.Proofs
open Go.Shelf Go.AH Go.Proofs.Tryz
open Go.IntKind (i64)
noncomputable section
def aq2:Go.Shelf.Ren:=⟨fun |173=>114 |246=>162 |283=>196 |284=>197 |285=>198 |286=>199 |129=>228 |317=>239 |318=>240 |319=>241 |320=>242 |337=>259 |338=>260 |n=>n,fun |2=>2 |3=>3 |9=>9 |4=>4 |171=>284 |0=>0 |53=>277 |37=>287 |5=>5 |173=>288 |212=>328 |51=>290 |20=>20 |213=>329 |46=>243 |232=>374 |233=>375 |n=>n,fun |17=>9 |18=>12 |19=>13 |n=>n⟩
def dr{a:Option Func}{x y:Func}(h:a=some x)(h2:x=y:=by kernel_rfl):a=some y:=h.trans (dh some h2)
def aq3:Go.Proofs.LaysM.n173 prog aq2:=⟨⟨ae,dr func228,dr func114,dr func162,dr func196,dr func197,dr func198,dr func199,dr func239,dr func240,dr func241,dr func242,dr func259,dr func260,underlying0,isAgg0,sizeOf0,zeroValue0,underlying2,isAgg2,sizeOf2,zeroValue2,underlying3,isAgg3,sizeOf3,zeroValue3,underlying4,isAgg4,sizeOf4,zeroValue4,underlying5,isAgg5,sizeOf5,zeroValue5,underlying9,isAgg9,sizeOf9,zeroValue9,underlying20,isAgg20,sizeOf20,zeroValue20,underlying287,isAgg287,sizeOf287,zeroValue287,underlying243,isAgg243,sizeOf243,zeroValue243,underlying290,isAgg290,sizeOf290,zeroValue290,underlying277,isAgg277,sizeOf277,zeroValue277,underlying284,isAgg284,sizeOf284,zeroValue284,underlying288,isAgg288,sizeOf288,zeroValue288,underlying328,isAgg328,sizeOf328,zeroValue328,underlying329,isAgg329,sizeOf329,underlying374,isAgg374,sizeOf374,zeroValue374,underlying375,isAgg375,sizeOf375,zeroValue375,ae,ae,ae⟩,ae,ae,ae,ae,ae,ae,ae,ae,ae,ae,ae,ae,ae,ae,ae,ae,ae,ae,ae⟩
open Go.RowKit Go.Sort Go.Lib in
def aq4(n:Int)(h0: -9223372036854775808<=n)(h1:n<=9223372036854775807)(w:World)(aLS:Lib.TabIs prog w "internal/strconv.uint64pow10" .u64 Lib.pow10Tab):
  Calls prog 114 #[.int .i64 n,.int .i64 10] w λe w'=>e=.returned (.string ⟨(Lib.itoa n).toArray⟩)/\∃k os,w'=grow (w.drewN k) os:=Any.strconv_FormatInt_10 aq3 n h0 h1 w aLS
def aq5:Go.Shelf.Ren:=⟨fun |174=>113 |247=>160 |245=>161 |287=>191 |279=>192 |280=>193 |281=>194 |282=>195 |321=>234 |322=>235 |316=>236 |171=>238 |205=>237 |243=>258 |246=>162 |283=>196 |284=>197 |285=>198 |286=>199 |129=>228 |317=>239 |318=>240 |319=>241 |320=>242 |337=>259 |338=>260 |n=>n,fun |9=>9 |3=>3 |2=>2 |75=>188 |85=>189 |4=>4 |167=>276 |5=>5 |53=>277 |175=>278 |46=>243 |168=>280 |37=>287 |0=>0 |210=>325 |21=>21 |127=>357 |145=>360 |143=>358 |171=>284 |173=>288 |212=>328 |51=>290 |20=>20 |213=>329 |232=>374 |233=>375 |80=>251 |n=>n,fun |15=>7 |16=>8 |17=>9 |18=>12 |19=>13 |n=>n⟩
def SD:Go.Proofs.LaysC.n174 prog aq5:=⟨⟨⟨ae,dr func228,dr func238,dr func113,dr func237,dr func258,dr func161,dr func162,dr func160,dr func192,dr func193,dr func194,dr func195,dr func196,dr func197,dr func198,dr func199,dr func191,dr func236,dr func239,dr func240,dr func241,dr func242,dr func234,dr func235,dr func259,dr func260,underlying0,isAgg0,sizeOf0,zeroValue0,underlying2,isAgg2,sizeOf2,zeroValue2,underlying3,isAgg3,sizeOf3,zeroValue3,underlying4,isAgg4,sizeOf4,zeroValue4,underlying5,isAgg5,sizeOf5,zeroValue5,underlying9,isAgg9,sizeOf9,zeroValue9,underlying20,isAgg20,sizeOf20,zeroValue20,underlying21,isAgg21,sizeOf21,zeroValue21,underlying287,isAgg287,sizeOf287,zeroValue287,underlying243,isAgg243,sizeOf243,zeroValue243,underlying290,isAgg290,sizeOf290,zeroValue290,underlying277,isAgg277,sizeOf277,zeroValue277,underlying188,isAgg188,sizeOf188,zeroValue188,underlying189,isAgg189,sizeOf189,zeroValue189,underlying357,isAgg357,sizeOf357,zeroValue357,underlying358,isAgg358,sizeOf358,zeroValue358,underlying360,isAgg360,sizeOf360,zeroValue360,underlying276,isAgg276,sizeOf276,zeroValue276,underlying280,isAgg280,sizeOf280,zeroValue280,underlying284,isAgg284,sizeOf284,zeroValue284,underlying288,isAgg288,sizeOf288,zeroValue288,underlying278,isAgg278,sizeOf278,zeroValue278,underlying325,isAgg325,sizeOf325,zeroValue325,underlying328,isAgg328,sizeOf328,zeroValue328,underlying329,isAgg329,sizeOf329,underlying374,isAgg374,sizeOf374,zeroValue374,underlying375,isAgg375,sizeOf375,zeroValue375,ae,ae,ae,ae,ae⟩,underlying251,isAgg251,sizeOf251,zeroValue251,ae,ae,ae,ae,ae,ae,ae,ae,ae,ae,ae,ae,ae,ae,ae,ae,ae,ae,ae,ae,ae,ae,ae,ae,ae,ae,ae,ae,ae,ae,ae,ae⟩,ae,ae,ae,ae,ae,ae,ae,ae,ae,ae,ae,ae,ae,ae,ae,ae,ae,ae,ae,ae,ae,ae,ae,ae,ae,ae,ae,ae⟩
open Go.RowKit in
def aq6(s:ByteArray)(BN:s.size<=9223372036854775806)(v:Int)(h:Lib.parseIntB 64 s.data.toList=.ok v)(w:World):
  Calls prog 113 #[.string s,.int .i64 10,.int .i64 64] w λe w'=>e=.returned (.tuple #[.int .i64 v,.nilIface])/\(w'=w\/∃t,w'=Lib.bytesWorld w 5 t):=Any.strconv_ParseInt_10_at64_ok SD s BN v h w
open Go.RowKit in
def aq7(s:ByteArray)(l8:s.size<=281474976710656)(h:Lib.parseIntB 64 s.data.toList=Lib.parseIntB 64 [])(ev:Value)(w:World)(hv:w.cell? ⟨7,0,none⟩=some ev)(jN:ev=.nilIface\/∃te pe,ev=.iface te pe):
  Calls prog 113 #[.string s,.int .i64 10,.int .i64 64] w λe w'=>∃N,e=.returned (.tuple #[.int .i64 (0),.iface 280 (.pointer (some ⟨N,0,none⟩))])/\w.heap.size<=N/\w'.heap[N]? =some (.cells #[.string ⟨#[80,97,114,115,101,73,110,116]⟩,.string s,ev] 325 (0,0))/\Below w.heap.size w w':=Any.strconv_ParseInt_10_at64_syntax SD s l8 (h.trans ae) ev w hv jN
open Go.RowKit in
def aq8(s:ByteArray)(l8:s.size<=281474976710656)(h:Lib.parseIntB 64 s.data.toList=.range)(ev:Value)(w:World)(hv:w.cell? ⟨8,0,none⟩=some ev)(jN:ev=.nilIface\/∃te pe,ev=.iface te pe):
  Calls prog 113 #[.string s,.int .i64 10,.int .i64 64] w λe w'=>∃N,e=.returned (.tuple #[.int .i64 (Lib.intSat 64 s.data.toList),.iface 280 (.pointer (some ⟨N,0,none⟩))])/\w.heap.size<=N/\w'.heap[N]? =some (.cells #[.string ⟨#[80,97,114,115,101,73,110,116]⟩,.string s,ev] 325 (0,0))/\Below w.heap.size w w':=Any.strconv_ParseInt_10_at64_range SD s l8 h ev w hv jN
def aq9:Go.Shelf.Ren:=⟨fun |189=>142 |125=>181 |257=>180 |128=>227 |129=>228 |294=>218 |295=>219 |296=>220 |297=>221 |298=>222 |299=>223 |216=>224 |300=>225 |301=>226 |328=>249 |329=>250 |330=>251 |331=>252 |332=>253 |215=>254 |343=>269 |n=>n,fun |28=>46 |3=>3 |46=>243 |0=>0 |51=>290 |53=>277 |4=>4 |183=>305 |182=>304 |131=>136 |5=>5 |9=>9 |218=>337 |222=>341 |228=>370 |229=>217 |n=>n,fun |n=>n⟩
def aq_:Go.Proofs.Lays.n189 prog aq9:=⟨ae,dr func181,dr func227,dr func228,dr func142,dr func254,dr func224,dr func180,dr func218,dr func219,dr func220,dr func221,dr func222,dr func223,dr func225,dr func226,dr func249,dr func250,dr func251,dr func252,dr func253,dr func269,underlying0,isAgg0,sizeOf0,zeroValue0,underlying3,isAgg3,sizeOf3,zeroValue3,underlying4,isAgg4,sizeOf4,zeroValue4,underlying5,isAgg5,sizeOf5,zeroValue5,underlying9,isAgg9,sizeOf9,zeroValue9,underlying46,isAgg46,sizeOf46,zeroValue46,underlying243,isAgg243,sizeOf243,zeroValue243,underlying290,isAgg290,sizeOf290,zeroValue290,underlying277,isAgg277,sizeOf277,zeroValue277,underlying136,isAgg136,sizeOf136,zeroValue136,underlying304,isAgg304,sizeOf304,zeroValue304,underlying305,isAgg305,sizeOf305,zeroValue305,underlying337,isAgg337,sizeOf337,zeroValue337,underlying341,isAgg341,sizeOf341,zeroValue341,underlying370,isAgg370,sizeOf370,zeroValue370,underlying217,isAgg217,sizeOf217,zeroValue217⟩
open Go.Sort Go.RowKit in
def aq'(blk off cap:Nat)(zs:List Int)(w:World)(hH:Holds (Value.int .i64) w blk off zs.toArray)(aLT:blk<w.heap.size)(bE:zs.length<4611686018427387904):
  Calls prog 142 #[.slice (some ⟨blk,off,none⟩) zs.length cap] w λe w'=>
   e=.returned (.tuple #[])/\∃n os,w'=grow (putRow (Value.int .i64) (Sort.ahead w n) blk off (zs.mergeSort λx y=>decide (x<=y)).toArray) os:=Any.slices_Sort_int aq_ blk off cap zs w hH aLT bE
def ara:Go.Shelf.Ren:=⟨fun |20=>143 |n=>n,fun |22=>46 |3=>3 |4=>4 |0=>0 |n=>n,fun |n=>n⟩
def adp:Go.Proofs.Lays2.n20 prog ara:=⟨ae,dr func143,underlying0,isAgg0,sizeOf0,zeroValue0,underlying3,isAgg3,sizeOf3,zeroValue3,underlying4,isAgg4,sizeOf4,zeroValue4,underlying46,isAgg46,sizeOf46,zeroValue46,ae⟩
open Go.RowKit Go.Lib Go.Sort in
def arb(blk off cap:Nat)(zs:List Int)(w:World)(hH:Holds (Value.int .i64) w blk off zs.toArray)(bE:zs.length<=9223372036854775807)(fQ:zs.length<=cap):
  Calls prog 143 #[.slice (some ⟨blk,off,none⟩) zs.length cap] w λe w'=>e=.returned (.slice (some ⟨blk,off,none⟩) (Lib.compact zs).length cap)/\∃q,w'=putRow (Value.int .i64) (Sort.ahead w q) blk off (Lib.compact zs++List.replicate (zs.length- (Lib.compact zs).length) 0).toArray:=Any.slices_Compact_int adp blk off cap zs w hH bE fQ
open Go.RowKit Go.Lib Go.Sort in
def arc(a:Option Addr)(cap:Nat)(w:World):
  Calls prog 143 #[.slice a 0 cap] w λe w'=>e=.returned (.slice a 0 cap)/\w'=w:=Any.slices_Compact_int_empty adp a cap w
end
end Go.Proofs
namespace Go.Proofs.YtkcikbcpjdccmaaGreatDoor
open Go Go.AH Go.RowKit Go.Proofs.Tryz
open Go.IntKind (i64)
set_option maxRecDepth 100000
noncomputable section
variable{w:World}{bk:Array Value}{O:Nat->Prop}{R:aa->Value->Prop}{s:List UInt8}
def KW{P T}{G:Nat->aa}{f:FuncId}{fn:Func}(hf:P.funcs[f]? =some fn)(gu:(fn.name== "runtime.NumGoroutine")=false)(hb:fn.body.isSome=true){Z}{β:Nat->AH.bd}{v}(cx:cY T G Z (a_ []) β w)
  (hc:Calls P f bk w λe w'=>∃x,e=.returned x/\cc w.heap.size w w'/\∀O R,ax T w' O v R x):xZ P f bk w (AH.kE T G Z [] β w (.a v [])):=by
 have h3:fn.name≠ "runtime.NumGoroutine" :=by simpa using gu
 obtain⟨c,Ip⟩:=Option.isSome_iff_exists.1 hb;refine .inl ⟨by simp[callFunc,hf,h3,Ip],hc.mono (λe w' he=> ?_)⟩;obtain⟨x,rfl,q,hr⟩:=he;exact⟨_,[],β,rfl,cx.I q,dZ.D.I q,hr _ _⟩
def ard(w)(k:Nat)(os:Array Obj):cc w.heap.size w (Sort.grow (w.drewN k) os):=by
 refine⟨rfl,rfl,rfl,?_,λb hb=>.inl ?_⟩
 ·show w.heap.size<=(w.heap++os).size;rw[HM];omega
 ·show(w.heap++os)[b]? =w.heap[b]?;exact Ez hb
def adq{t:TypeId}{u}{g:Nat}(h:dU aJ w O (.A [.C t u]) g):∃y,w.cell? ⟨g,0,none⟩=some (.iface t y):=by obtain⟨⟨b,o,l,he,hb,hO,hl,x,r,rfl,⟨y,rfl,_⟩,_⟩,_⟩:=h;simp only[Value.pointer.injEq,Option.some.injEq,Addr.mk.injEq]at he;obtain⟨rfl,rfl,_⟩:=he;exact⟨y,hl 0 _ rfl⟩
def are{a b:Int}(h:aF aJ w O [.h s,.c .i64 a,.c .i64 b] R bk.toList):∃t:ByteArray,t.data.toList=s/\bk= #[.string t,.int .i64 a,.int .i64 b]:=by obtain⟨x,r,e1,⟨t,rfl,ht⟩,y,r2,rfl,rfl,z,r3,rfl,rfl,e4⟩:=h;have e4:r3=[]:=e4;subst e4;exact⟨t,ht,by rw[<-Array.toList_inj];exact e1⟩
def arh{a b:Int}(h:aF aJ w O [.c .i64 a,.c .i64 b] R bk.toList):bk= #[.int .i64 a,.int .i64 b]:=by obtain⟨x,r,e1,rfl,y,r2,rfl,rfl,e4⟩:=h;have e4:r2=[]:=e4;subst e4;rw[<-Array.toList_inj];exact e1
def ari{k:IntKind}{zs:List Int}{g:Nat}{n:String}(hn:prog.globalNamed n=some g)(h:dU aJ w O (.A (zs.map (aa.c k))) g):Lib.TabIs prog w n k zs:=by
 obtain⟨⟨b,o,l,he,hb,hO,hl,hr⟩,arr,e,z,h1,h2⟩:=h;simp only[Value.pointer.injEq,Option.some.injEq,Addr.mk.injEq]at he;obtain⟨rfl,rfl,_⟩:=he;have key:∀(us:List Int)(l:List Value),aF aJ w O (us.map (aa.c k)) bh l->l=us.map (Value.int k):=by
  intro us;induction us with
  |nil=>intro l h;exact h
  |cons u us ih=>intro l h;obtain⟨x,r,rfl,rfl,h⟩:=h;rw[ih r h];rfl
 have gS:=key zs l hr;subst gS;unfold Lib.TabIs World.var?;rw[hn,X5,h1];refine dh some (Array.ext_getElem? λi=> ?_);by_cases hi:i<zs.length
 ·have h3:=hl i (.int k zs[i]) (by simp[hi]);unfold World.cell? at h3;simp only[h1]at h3;simpa[hi] using h3
 ·rw[gR]at h2;rw[EC ab,EC (by simp;omega)]
def arj:=aR 77 P' ae
def ark:=aR 43 C7 ae
def KX:=aR 23 yo ae
def oH(s:List UInt8):Bool:=match Lib.parseIntB 64 s with | .ok _=>true |_=>false
def lL(s:List UInt8):Int:=match Lib.parseIntB 64 s with | .ok v=>v | .range=>Lib.intSat 64 s |_=>0
def arl(s)(h:oH s=true): -9223372036854775808<=lL s/\lL s<=9223372036854775807:=by
 unfold oH at h;unfold lL;cases hq:Lib.parseIntB 64 s with
 |ok v=>
  simp only;unfold Lib.parseIntB at hq;split at hq
  ·cases hq
  ·simp only at hq;split at hq
   ·cases hq
   ·cases hq
   ·split at hq
    ·cases hq
    ·split at hq
     ·cases hq
     ·rename_i u _ h1 h2;simp only[Lib.NumEnd.ok.injEq]at hq;simp only[not_and,Nat.not_le,Nat.not_lt]at h1 h2;subst hq;split
      ·rename_i hn;have:=h2 hn;omega
      ·rename_i hn;have:=h1 hn;omega
 |_=>rw[hq]at h;cases h
def KY:aq
 | [.h s,.c .i64 10,.c .i64 64],[]=>.I (decide (s.length<=281474976710656)) (.c (oH s) (.g (.a (.q [.c .i64 (lL s),.M]) [])) (.g (.a (.q [.c .i64 (lL s),.C 280 .m]) [])))
 |_,_=>.d
def SE:aq
 | [.c .i64 n,.c .i64 10],[]=>.I (decide (-9223372036854775808<=n) &&decide (n<=9223372036854775807)) (.g (.a (.h (Lib.itoa n)) []))
 |_,_=>.d
def adr:aH 113 KY:=by
 intro args ao out cM iL Z β w bk cx cN;unfold KY at cM;split at cM
 ·rename_i s;obtain⟨h1,h2⟩:=aO cM;have hs:s.length<=281474976710656:=ff h1;obtain⟨t,rfl,rfl⟩:=are cN;have bE:t.size<=281474976710656:=by
   have:t.size=t.data.toList.length:=by rw[Bw];rfl
   omega
  cases hp:Lib.parseIntB 64 t.data.toList with
  |ok v=>
   have e1:oH t.data.toList=true:=by unfold oH;rw[hp]
   have e2:lL t.data.toList=v:=by unfold lL;rw[hp]
   rw[e1,e2]at h2;cases h2;refine KW func113 rfl rfl cx ((aq6 t ab v hp w).mono λe w' he=> ?_);obtain⟨rfl,hw⟩:=he;refine⟨_,rfl,?_,λO R=>⟨_,rfl,_,_,rfl,rfl,_,_,rfl,rfl,rfl⟩⟩;rcases hw with rfl | ⟨u,rfl⟩
   ·exact cc.U
   ·exact Below.JQ (Lib.bytesWorld_below _ _ _)
  |range=>
   have e1:oH t.data.toList=false:=by unfold oH;rw[hp]
   have e2:lL t.data.toList=Lib.intSat 64 t.data.toList:=by unfold lL;rw[hp]
   rw[e1,e2]at h2;cases h2;obtain⟨y,hy⟩:=adq (cx.n 8);refine KW func113 rfl rfl cx ((aq8 t bE hp _ w hy (.inr ⟨_,_,rfl⟩)).mono λe w' he=> ?_);obtain⟨N,rfl,_,_,hw⟩:=he;exact⟨_,rfl,Below.JQ hw,λO R=>⟨_,rfl,_,_,rfl,rfl,_,_,rfl,⟨_,rfl,trivial⟩,rfl⟩⟩
  |_=>
   have e1:oH t.data.toList=false:=by unfold oH;rw[hp]
   have e2:lL t.data.toList=0:=by unfold lL;rw[hp]
   rw[e1,e2]at h2;cases h2;obtain⟨y,hy⟩:=adq (cx.n 7);refine KW func113 rfl rfl cx ((aq7 t bE (hp.trans ae) _ w hy (.inr ⟨_,_,rfl⟩)).mono λe w' he=> ?_);obtain⟨N,rfl,_,_,hw⟩:=he;exact⟨_,rfl,Below.JQ hw,λO R=>⟨_,rfl,_,_,rfl,rfl,_,_,rfl,⟨_,rfl,trivial⟩,rfl⟩⟩
 ·simp[af.D]at cM
def aro:cO 9=.A (Lib.pow10Tab.map (aa.c .u64)):=ae
def arp:aH 114 SE:=by
 intro args ao out cM iL Z β w bk cx cN;unfold SE at cM;split at cM
 ·rename_i n;obtain⟨h1,h2⟩:=aO cM;cases h2;rw[au]at h1;obtain rfl:=arh cN;have hg:=cx.n 9;rw[aro]at hg;refine KW func114 rfl rfl cx ((aq4 n (ff h1.1) (ff h1.2) w (ari ae hg)).mono λe w' he=> ?_);obtain⟨rfl,k,os,rfl⟩:=he;exact⟨_,rfl,ard _ _ _,λO R=>⟨_,rfl,rfl⟩⟩
 ·simp[af.D]at cM
def Gf(s t:List UInt8):Bool:=oH s && (Lib.itoa (lL s)==s) && (t.isEmpty || !kh (t.getD 0 0).toNat)
def arq(s t):(aI (ay an (aL [(113,KY),(114,SE),(74,KT)]) P' aK) false f77 [.h s,.h t] []).D=((af.c (decide (s.length<=281474976710656)) (.c (oH s) (.c (decide ((-9223372036854775808:Int)<=lL s) &&decide (lL s<=9223372036854775807)) (.c (Lib.itoa (lL s)==s) (.c (!t==[]) (.c (decide ((0:Int)<=0) &&decide (0<(↑t.length:Int))) (al (.p !kh (↑(t.getD (Int.toNat (0:Int)) 0).toNat:Int)) []) .d) (al (.p true) [])) (al (.p false) [])) .d) (al (.p false) [])) .d)).D:=ae
def SF:aq| [.h s,.h t],[]=>.I (decide (s.length<=281474976710656)) (.g (.a (.p (Gf s t)) [])) |_,_=>.d
def ars:aH 77 SF:=bI (aA adr (aA arp (aA adf aQ))) arj λp q r h=>by
 unfold SF at h;split at h
 ·rename_i s t;obtain⟨h1,h2⟩:=aO h;refine(arq _ _).trans (bS ?_ h2);rw[dA,if_pos h1];unfold Gf;cases hp:oH s with
  |false=>rfl
  |true=>
   obtain⟨h3,h4⟩:=arl s hp;rw[dA,if_pos rfl,dA,if_pos (by simp[h3,h4])];cases hq:(Lib.itoa (lL s)==s)with
   |false=>rfl
   |true=>
    rw[dA,if_pos rfl];cases t with
    |nil=>rfl
    |cons c t=>simp[af.D]
 ·cases h
def Gg:FuncId->aq:=aL [(72,KS),(76,Gc),(73,Sr),(75,SC),(77,SF),(70,yz)]
def art:∀k,aH k (Gg k):=aA ade (aA Sn (aA aqr (aA aq1 (aA ars (aA adk aQ)))))
def aru(s):(aI (ay an Gg C7 (cG an Gg C7 30 30).d) false f43 [.h s] []).D=((letI ai:=(↑s.length:Int);letI ak:=Int.toNat (0:Int);letI aw:=(↑(s.getD ak 0).toNat:Int);letI aS:=(↑(gi (mq 74) s):Int);letI bx:=List.take (aS.toNat-Int.toNat (0:Int)) (List.drop ak s);letI bX:af aC:=al (.q [ah 0,.h []]) [];letI cI:=(↑(gi (mq 76) s):Int);letI fi:=decide ((0:Int)<=0) &&decide (0<=cI) &&decide (cI<=ai);letI eA:=List.take (cI.toNat-Int.toNat (0:Int)) (List.drop ak s);af.c (decide ((0:Int)<=0) &&decide (0<ai)) (.c (yy aw) (.c (Dj 74 &&decide (s.length<=cg)) (.c (decide ((0:Int)<=0) &&decide (0<=aS) &&decide (aS<=ai)) (.c (Ge bx) (al (.q [ah 3,.h bx]) []) (.c (decide ((↑bx.length:Int)<=16)) (al (.q [ah 1,.h bx]) []) bX)) .d) .d) (.c (qo aw) (.c (Dj 76 &&decide (s.length<=cg)) (.c fi (.c (decide (0<=cI) &&decide (cI<=ai) &&decide (ai<=ai)) (.c (decide (eA.length<=281474976710656)) (.c (Gf eA (List.take (ai.toNat-cI.toNat) (List.drop cI.toNat s))) (.c fi (al (.q [ah 2,.h eA]) []) .d) bX) .d) .d) .d) .d) (.c (eX s [124,124]) (al (.q [ah 4,.h [124,124]]) []) (.c (eX s [38,38]) (al (.q [ah 4,.h [38,38]]) []) (.c (eX s [61,61]) (al (.q [ah 4,.h [61,61]]) []) (.c (eX s [33,61]) (al (.q [ah 4,.h [33,61]]) []) (.c (eX s [60,61]) (al (.q [ah 4,.h [60,61]]) []) (.c (eX s [62,61]) (al (.q [ah 4,.h [62,61]]) []) (.c (eX s [40]) (al (.q [ah 4,.h [40]]) []) (.c (eX s [41]) (al (.q [ah 4,.h [41]]) []) (.c (eX s [123]) (al (.q [ah 4,.h [123]]) []) (.c (eX s [125]) (al (.q [ah 4,.h [125]]) []) (.c (eX s [91]) (al (.q [ah 4,.h [91]]) []) (.c (eX s [93]) (al (.q [ah 4,.h [93]]) []) (.c (eX s [44]) (al (.q [ah 4,.h [44]]) []) (.c (eX s [59]) (al (.q [ah 4,.h [59]]) []) (.c (eX s [61]) (al (.q [ah 4,.h [61]]) []) (.c (eX s [60]) (al (.q [ah 4,.h [60]]) []) (.c (eX s [62]) (al (.q [ah 4,.h [62]]) []) (.c (eX s [43]) (al (.q [ah 4,.h [43]]) []) (.c (eX s [45]) (al (.q [ah 4,.h [45]]) []) (.c (eX s [42]) (al (.q [ah 4,.h [42]]) []) (.c (eX s [47]) (al (.q [ah 4,.h [47]]) []) (.c (eX s [37]) (al (.q [ah 4,.h [37]]) []) (.c (eX s [33]) (al (.q [ah 4,.h [33]]) []) bX))))))))))))))))))))))))) .d):af aC).D:=ae
def arv(r:Int×List UInt8):aC:=.a (.q [.c .i64 r.1,.h r.2]) []
def ads{t}(h:eX s t=true):t.length<=s.length:=by unfold eX at h;simp only[au,bC]at h;exact h.1
def arw(p:Int->Bool):∀(s:List UInt8),0<s.length->p (s.getD 0 0).toNat=true->0<gi p s
 |c::r,_,h=>by have h:p c.toNat=true:=h;unfold gi;rw[h];simp
def yB(s:List UInt8):List (List UInt8)->Int×List UInt8
 | []=>(0,[])
 |t::r=>bif eX s t then(4,t)else yB s r
def SG:List (List UInt8):=[[124,124],[38,38],[61,61],[33,61],[60,61],[62,61],[40],[41],[123],[125],[91],[93],[44],[59],[61],[60],[62],[43],[45],[42],[47],[37],[33]]
def Dm(s:List UInt8):List UInt8:=s.take (gi (mq 74) s)
def SH(s:List UInt8):List UInt8:=s.take (gi (mq 76) s)
def adt(s:List UInt8):List UInt8:=(s.drop (gi (mq 76) s)).take (s.length-gi (mq 76) s)
def fV(s:List UInt8):Int×List UInt8:=
 bif yy (s.getD 0 0).toNat then(bif Ge (Dm s)then(3,Dm s)else bif decide (((Dm s).length:Int)<=16)then(1,Dm s)else(0,[]))
 else bif qo (s.getD 0 0).toNat then(bif Gf (SH s) (adt s)then(2,SH s)else(0,[]))
 else yB s SG
def arx(s)(h0:0<s.length)(hs:s.length<=281474976710656):(aI (ay an Gg C7 (cG an Gg C7 30 30).d) false f43 [.h s] []).D=some (arv (fV s)):=by
 refine(aru s).trans ?_;refine aZ (by rw[aD (show(0:Int)<s.length from ab)];rfl) ?_;have Y5:∀(p:Int->Bool),(decide ((0:Int)<=(0:Int)) &&decide ((0:Int)<=(↑(gi p s):Int)) &&decide ((↑(gi p s):Int)<=(↑s.length:Int)))=true:=λp=>by have:=JS p s;rw[aD (show(0:Int)<=(gi p s:Int)from ab),aD (show(gi p s:Int)<=s.length from ab)];rfl
 refine bK (λ_=> ?_) (λ_=> ?_)
 ·refine aZ (by rw[aD (show s.length<=9223372036854775807 from ab)];rfl) (aZ (Y5 _) (bK (λ_=>rfl) λ_=>bK (λ_=>rfl) λ_=>rfl))
 ·refine bK (λ_=> ?_) (λ_=> ?_)
  ·have hl:=JS (mq 76) s;refine aZ (by rw[aD (show s.length<=9223372036854775807 from ab)];rfl) (aZ (Y5 _) (aZ ?_ (aZ ?_ (bK (λ_=>aZ (Y5 _) rfl) λ_=>rfl))))
   ·rw[aD (show(0:Int)<=(gi (mq 76) s:Int)from ab),aD (show(gi (mq 76) s:Int)<=s.length from ab),aD (j1 _)];rfl
   ·refine aD ?_;show(s.take (gi (mq 76) s)).length<=_;rw[pM];omega
  ·unfold SG
   repeat (unfold yB;refine bK (λ_=>rfl) (λ_=> ?_))
   rfl
def adu(p:Int->Bool):∀s:List UInt8,(s.take (gi p s)).all (λc=>p c.toNat)=true
 | []=>rfl
 |c::r=>by
  unfold gi;cases h:p c.toNat with
  |true=>show(c::r.take (gi p r)).all _=true;rw[ja,h,adu p r];rfl
  |false=>rfl
def adw(s):∀l:List (List UInt8),(∀t∈l,0<t.length)->(yB s l).1≠0->0<(yB s l).2.length/\(yB s l).2.length<=s.length/\(yB s l).1=4
 | [],_,h=>absurd rfl h
 |t::r,hl,h=>by
  unfold yB at h⊢;cases ht:eX s t with
  |true=>exact⟨hl t (HS ..),ads ht,rfl⟩
  |false=>rw[ht]at h;exact adw s r (λu hu=>hl u (oX _ hu)) h
def nQ(s:List UInt8):Bool:=s.all λc=>Nat.blt c.toNat 128
def ary(h:s.all (λc=>mq 76 c.toNat)=true):nQ s=true:=by unfold nQ;rw[dS]at h⊢;intro c hc;have h1:qo (c.toNat:Int)=true:=h c hc;unfold qo at h1;simp at h1;rw[Ep];omega
def SI(s)(h0:0<s.length)(h:(fV s).1≠0):0<(fV s).2.length/\(fV s).2.length<=s.length/\((fV s).1=2->nQ (fV s).2=true):=by
 have hw:∀p:Int->Bool,p (s.getD 0 0).toNat=true->0<(s.take (gi p s)).length/\(s.take (gi p s)).length<=s.length:=λp hp=>by have h1:=arw p s h0 hp;have h2:=JS p s;rw[pM];omega
 unfold fV at h⊢;cases hl:yy ((s.getD 0 0).toNat:Int)with
 |true=>
  rw[hl]at h;have hp:=hw (mq 74) (by show kh _=true;unfold kh;rw[hl];rfl);cases hr:Ge (Dm s)with
  |true=>exact⟨hp.1,hp.2,λh=>by cases h⟩
  |false=>
   cases hq:decide (((Dm s).length:Int)<=16)with
   |true=>exact⟨hp.1,hp.2,λh=>by cases h⟩
   |false=>rw[hr,hq]at h;exact absurd rfl h
 |false=>
  rw[hl]at h;cases hd:qo ((s.getD 0 0).toNat:Int)with
  |true=>
   rw[hd]at h;have hp:=hw (mq 76) hd;cases hn:Gf (SH s) (adt s)with
   |true=>exact⟨hp.1,hp.2,λ_=>ary (adu _ s)⟩
   |false=>rw[hn]at h;exact absurd rfl h
  |false=>rw[hd]at h;have h3:=adw s SG av h;exact⟨h3.1,h3.2.1,λh4=>by rw[ve,ve,h3.2.2]at h4;cases h4⟩
def SJ:aq| [.h s],[]=>.I (decide (0<s.length) &&decide (s.length<=281474976710656)) (.g (.a (.q [.c .i64 (fV s).1,.h (fV s).2]) [])) |_,_=>.d
def arz:aH 43 SJ:=dN aW c_ art ark rfl (sH 30) λp q r h=>by
 unfold SJ at h;split at h
 ·obtain⟨h1,h2⟩:=aO h;simp only[au,bC]at h1;exact(arx _ h1.1 h1.2).trans h2
 ·cases h
def Dn:FuncId->aq:=aL [(43,SJ),(42,Sz)]
def arA:∀k,aH k (Dn k):=aA arz (aA aqS aQ)
def arB(s l)(n:Nat)(at_:Int):(cB (ay an Dn yo aK) 0 3 (cq yo 0) [.h s,.y 80 0 0 n,ah at_] [.b false 0 80 l]).D=((letI ai:=(↑s.length:Int);letI ak:=List.take (ai.toNat-at_.toNat) (List.drop at_.toNat s);letI aw:=fV ak;letI aS:=at_+(↑aw.snd.length:Int);letI bx:=i64.wrap aS;letI bX:=List.take (ai.toNat-bx.toNat) (List.drop bx.toNat s);letI cI:=l++ [aa.u [ah aw.fst,.h aw.snd,ah at_]];af.c (decide (at_<ai)) (.c (decide (0<=at_) &&decide (at_<=ai) &&decide (ai<=ai)) (.c (decide (0<ak.length) &&decide (ak.length<=281474976710656)) (.c (aw.fst==0) (.g ((.c,[.y 80 0 0 0,ah at_,ah 7,.y 80 1 0 n],[.b false 0 80 [],.b false 0 80 l]))) (.c (decide (l.length+1<=4294967296)) (.c (decide (0<=i64.wrap aS) &&decide (i64.wrap aS<=ai) &&decide (ai<=ai)) (.c (decide (bX.length<=9223372036854775806)) (.g ((.b,[.h s,.y 80 0 0 cI.length,ah (i64.wrap (i64.wrap aS+(↑(nP bX):Int)))],[.b false 0 80 cI]))) .d) .d) .d)) .d) .d) (.g ((.a 0,[.m,.m,.m,.y 80 0 0 n],[.b false 0 80 l])))):af (aU×List aa×List aj)).D:=ae
def SK(r:Bool×Nat×List aa):aU×List aa×List aj:=match r.1 with
 |true=>(.c,[.y 80 0 0 0,.c .i64 (r.2.1:Int),.c .i64 7,.y 80 1 0 r.2.2.length],[.b false 0 80 [],.b false 0 80 r.2.2])
 |false=>(.a 0,[.m,.m,.m,.y 80 0 0 r.2.2.length],[.b false 0 80 r.2.2])
def AL(k:Int)(w:List UInt8)(a:Int):aa:=.u [.c .i64 k,.h w,.c .i64 a]
def yC(s:List UInt8):Nat->Nat->List aa->Bool×Nat×List aa
 |0,_,l=>(false,0,l)
 |k+1,n,l=>bif decide ((n:Int)<s.length)then(bif (fV (s.drop n)).1==0 then(true,n,l)else
   yC s k (n+(fV (s.drop n)).2.length+nP (s.drop (n+(fV (s.drop n)).2.length))) (l++ [AL (fV (s.drop n)).1 (fV (s.drop n)).2 n]))else(false,0,l)
def adx(s:List UInt8)(n:Nat):List.take ((s.length:Int).toNat- (n:Int).toNat) (List.drop (n:Int).toNat s)=s.drop n:=by rw[dE,dE,pL aB]
def ady(s)(hs:s.length<=4294967295):∀(k n:Nat)(l:List aa),s.length<n+k->l.length<=n->n<=s.length->
  bw an Dn yo 0 3 [.h s,.y 80 0 0 l.length,.c .i64 n] [.b false 0 80 l] (SK (yC s k n l))
 |0,n,l,hk,_,hn=>ab
 |k+1,n,l,hk,hl,hn=>by
  have bg:=arB s l l.length n;rw[adx]at bg;unfold yC;cases h1:decide ((n:Int)<s.length)with
  |false=>rw[h1]at bg;exact bw.D KX 0 ae ae cv bg rfl
  |true=>
   have hn':n<s.length:=by simpa using h1
   have Cg:(s.drop n).length=s.length-n:=tA;have t1:(decide ((0:Int)<=(n:Int)) &&decide ((n:Int)<=(s.length:Int)) &&decide ((s.length:Int)<=(s.length:Int)))=true:=by rw[aD (show(0:Int)<=(n:Int)from ab),aD (show(n:Int)<=(s.length:Int)from ab),aD (j1 _)];rfl
   have t2:(decide (0<(s.drop n).length) &&decide ((s.drop n).length<=281474976710656))=true:=by rw[aD (show 0<(s.drop n).length from ab),aD (show(s.drop n).length<=281474976710656 from ab)];rfl
   rw[h1,t1,t2]at bg;cases h0:((fV (s.drop n)).1==0)with
   |true=>rw[h0]at bg;exact bw.D KX 0 ae ae cv bg rfl
   |false=>
    have h2:=SI (s.drop n) ab (by simpa using h0);obtain⟨m,hm⟩:∃m,m=(fV (s.drop n)).2.length:=⟨_,rfl⟩
    rw[h0]at bg;rw[<-hm]at h2 bg⊢;have je:(s.drop (n+m)).length=s.length- (n+m):=tA;have h5:=KU (s.drop (n+m)) ab;have e1:((n:Int)+(m:Int))=((n+m:Nat):Int):=ab;rw[ep (n:=(n:Int)+(m:Int)) ab ab,e1,adx,ep (n:=((n+m:Nat):Int)+(nP (s.drop (n+m)):Int)) ab ab]at bg;have t3:decide (l.length+1<=4294967296)=true:=aD ab;have t4:(decide ((0:Int)<=((n+m:Nat):Int)) &&decide (((n+m:Nat):Int)<=(s.length:Int)) &&decide ((s.length:Int)<=(s.length:Int)))=true:=by rw[aD (show(0:Int)<=((n+m:Nat):Int)from ab),aD (show((n+m:Nat):Int)<=(s.length:Int)from ab),aD (j1 _)];rfl
    have t5:decide ((s.drop (n+m)).length<=9223372036854775806)=true:=aD ab;rw[t4,t5]at bg;rw[show decide (l.length+nat_lit 1<=nat_lit 4294967296)=true from t3]at bg;refine bw.D KX 0 ae ae cv bg ?_;have e2:(((n+m:Nat):Int)+(nP (s.drop (n+m)):Int))=((n+m+nP (s.drop (n+m)):Nat):Int):=ab;rw[e2];exact ady s hs k (n+m+nP (s.drop (n+m))) (l++ [AL (fV (s.drop n)).1 (fV (s.drop n)).2 n]) ab (by simp;omega) ab
def mT(s:List UInt8):Bool×Nat×List aa:=yC s (s.length+1) (nP s) []
def arC(s)(hs:s.length<=4294967295):bw an Dn yo 0 3 [.h s,.y 80 0 0 0,.c .i64 (nP s:Int)] [.b false 0 80 []] (SK (mT s)):=by have:=KU s ab;exact ady s hs (s.length+1) (nP s) [] ab aB ab
def adz(s:List UInt8)(Q:aa->Prop)(hQ:∀n,n<s.length->(fV (s.drop n)).1≠0->Q (AL (fV (s.drop n)).1 (fV (s.drop n)).2 n)):∀(k n:Nat)(l:List aa),(∀v∈l,Q v)->∀v∈(yC s k n l).2.2,Q v
 |0,n,l,h=>h
 |k+1,n,l,h=>by
  unfold yC;cases h1:decide ((n:Int)<s.length)with
  |false=>exact h
  |true=>
   have hn':n<s.length:=by simpa using h1
   cases h0:((fV (s.drop n)).1==0)with
   |true=>exact h
   |false=>
    refine adz s Q hQ k _ _ (λv hv=> ?_);rcases List.mem_append.1 hv with hv |hv
    ·exact h v hv
    ·rw[EA]at hv;subst hv;exact hQ n hn' (by simpa using h0)
def adA(s):∀(k n:Nat)(l:List aa),l.length<=n->n<=s.length->s.length<=281474976710656->(yC s k n l).2.2.length<=s.length
 |0,n,l,h,hn,hs=>by show l.length<=_;omega
 |k+1,n,l,h,hn,hs=>by
  unfold yC;cases h1:decide ((n:Int)<s.length)with
  |false=>show l.length<=_;omega
  |true=>
   have hn':n<s.length:=by simpa using h1
   have Cg:(s.drop n).length=s.length-n:=tA;cases h0:((fV (s.drop n)).1==0)with
   |true=>show l.length<=_;omega
   |false=>have h2:=SI (s.drop n) ab (by simpa using h0);have je:(s.drop (n+(fV (s.drop n)).2.length)).length=s.length- (n+(fV (s.drop n)).2.length):=tA;have h5:=KU (s.drop (n+(fV (s.drop n)).2.length)) ab;exact adA s k _ _ (by simp;omega) ab hs
def SL:dk:=λm key vs os=>match vs,os with
 | [.h s,.y 80 0 0 0,.c .i64 n],[.b false 0 80 []]=>.I (decide (s.length<=4294967295) &&decide (n=(nP s:Int)) &&Nat.beq m 0 &&Nat.beq key 3) (.c (mT s).1
   (.g (.c,[.y 80 0 0 0,.c .i64 ((mT s).2.1:Int),.c .i64 7,.y 80 1 0 (mT s).2.2.length],[.b false 0 80 [],.b false 0 80 (mT s).2.2]))
   (.g (.a 0,[.m,.m,.m,.y 80 0 0 (mT s).2.2.length],[.b false 0 80 (mT s).2.2])))
 |_,_=>.d
def arD:cJ an Dn yo SL:=by
 intro m key vs os r h;unfold SL at h;split at h
 ·rename_i s n;obtain⟨h1,h2⟩:=aO h;simp only[au,bC,aNx]at h1;obtain⟨⟨⟨hs,rfl⟩,rfl⟩,rfl⟩:=h1;have h3:=arC s hs;unfold SK at h3;cases hb:(mT s).1<;>rw[hb]at h2 h3<;>simp only[af.D,Option.some.injEq]at h2<;>subst h2<;>exact h3
 ·simp[af.D]at h
def jW(s:List UInt8):List aa:=match(mT s).1 with |true=> [] |false=>(mT s).2.2
def Gh(s:List UInt8):Int:=match(mT s).1 with |true=>(mT s).2.1 |false=>0
def KZ(s:List UInt8):Int:=match(mT s).1 with |true=>7 |false=>0
def arE(s)(hs:s.length<=4294967295):(jW s).length<=s.length:=by
 unfold jW;split
 ·simp
 ·have:=KU s ab;exact adA s _ _ [] aB ab ab
def Dp(v:aa):Bool:= !((v.D 0).I==2) || (nQ (v.D 1).bJ &&decide ((v.D 1).bJ.length<=281474976710656))
def arF(s)(hs:s.length<=4294967295):(jW s).all Dp=true:=by
 unfold jW;split
 ·rfl
 ·rw[dS];refine adz s (λv=>Dp v=true) (λn hn h=> ?_) _ _ [] (λv hv=>by cases hv);have Cg:(s.drop n).length=s.length-n:=tA;have h2:=SI (s.drop n) ab h;show(!((fV (s.drop n)).1==2) || (nQ (fV (s.drop n)).2 &&decide ((fV (s.drop n)).2.length<=281474976710656)))=true;cases h3:((fV (s.drop n)).1==2)with
  |false=>rfl
  |true=>rw[h2.2.2 (by simpa using h3),aD (show(fV (s.drop n)).2.length<=281474976710656 from ab)];rfl
def SM:aq| [.h s],[]=>.I (decide (s.length<=4294967295)) (.g (.a (.q [.d 80 (jW s),.c .i64 (Gh s),.c .i64 (KZ s)]) [])) |_,_=>.d
def arG(s):(aI (ay an Dn yo SL) false f23 [.h s] []).D=((af.c (decide (s.length<=9223372036854775806)) (.c (decide (s.length<=4294967295) &&decide ((↑(nP s):Int)=(↑(nP s):Int)) &&Nat.beq 0 0 &&Nat.beq 3 3) (.c ((mT s).fst) (al (.q [.d 80 [],ah (↑(mT s).snd.fst:Int),ah 7]) []) (al (.q [.d 80 (mT s).snd.snd,ah 0,ah 0]) [])) .d) .d)).D:=ae
def arH:aH 23 SM:=dN aW c_ arA KX rfl arD λp q r h=>by
 unfold SM at h;split at h
 ·obtain⟨h1,h2⟩:=aO h;simp only[bC]at h1;refine(arG _).trans ?_;rw[<-h2];simp only[dA,fU];rw[if_pos (by simp;omega),if_pos (by simp;omega)];unfold jW Gh KZ;cases(mT _).1<;>rfl
 ·cases h
def arI:=aR 182 J6 ae
def SN:=aR 148 vZ ae
def SO:=aR 149 v_ ae
def arJ:=aR 104 Qa ae
def arK:=aR 63 Qb ae
def eP:List aa:=(List.range 256).map λ(i:Nat)=>aa.p (kh (i:Int))
def Gi:List aa->List aa->Bool
 | [],[]=>true
 | .p a::r,.p b::q=>(a==b) &&Gi r q
 |_,_=>false
def K0:∀(l m:List aa),Gi l m=true->l=m
 | [],[],_=>rfl
 | .p a::r,.p b::q,h=>by unfold Gi at h;rw[au,qM]at h;rw[h.1,K0 r q h.2]
def qp(cs:List aa):Bool:=Gi cs eP
def adB(n:Nat):Bool:=match(aI (ay an (aL []) J6 aK) false f182 [.e 0 0,.c .u8 (n:Int)] [.a false eP]).D with
 |some (.a (.p b) [.a false cs])=>(b==kh (n:Int)) &&Gi cs eP
 |_=>false
def arL:(List.range 256).all adB=true:=ae
def arM(n:Nat)(hn:n<256):(aI (ay an (aL []) J6 aK) false f182 [.e 0 0,.c .u8 (n:Int)] [.a false eP]).D=some (.a (.p (kh (n:Int))) [.a false eP]):=by
 have h:=List.all_eq_true.1 arL n (List.mem_range.2 hn);unfold adB at h;split at h
 ·rename_i b cs hq;rw[hq];rw[au,qM]at h;rw[h.1,K0 _ _ h.2]
 ·cases h
def SP:aq
 | [.e 0 0,.c .u8 c],[.a false cs]=>.I (decide (0<=c) &&decide (c<256) &&qp cs) (.g (.a (.p (kh c)) [.a false cs]))
 |_,_=>.d
def arN:aH 182 SP:=bI aQ arI λp q r h=>by
 unfold SP at h;split at h
 ·rename_i c cs;obtain⟨h1,h2⟩:=aO h;simp only[au,bC]at h1;obtain⟨⟨h3,h4⟩,h5⟩:=h1;obtain rfl:=K0 _ _ h5;obtain⟨n,rfl⟩:=HR h3;exact(arM n ab).trans h2
 ·cases h
def qq:FuncId->aq:=aL [(182,SP)]
def adC:∀k,aH k (qq k):=aA arN aQ
def adD(s):(cB (ay an qq vZ aK) 1 1 (cq vZ 0) [.h s,.e 0 0] [.a false eP]).D=((letI ai:=(↑s.length:Int);letI ak:=(↑(s.getD (Int.toNat (0:Int)) 0).toNat:Int);af.c (decide (ai>0)) (.c (decide ((0:Int)<=0) &&decide (0<ai)) (.c (decide (0<=ak) &&decide (ak<256) &&qp eP) (.c (!kh ak) (.g ((.a 0,[.h s],[.a false eP]))) (.c (decide ((0:Int)<=1) &&decide (1<=ai) &&decide (ai<=ai)) (.g ((.b,[.h (List.take (ai.toNat-Int.toNat (1:Int)) (List.drop (Int.toNat (1:Int)) s)),.e 0 0],[.a false eP]))) .d)) .d) .d) (.g ((.a 0,[.h s],[.a false eP])))):af (aU×List aa×List aj)).D:=ae
def adE(s):(cB (ay an qq v_ aK) 1 1 (cq v_ 0) [.h s,.e 0 0] [.a false eP]).D=((letI ai:=(↑s.length:Int);letI ak:=i64.wrap (ai-1);letI aw:=(↑(s.getD ak.toNat 0).toNat:Int);af.c (decide (ai>0)) (.c (decide (0<=i64.wrap (ai-1)) &&decide (i64.wrap (ai-1)<ai)) (.c (decide (0<=aw) &&decide (aw<256) &&qp eP) (.c (!kh aw) (.g ((.a 0,[.h s],[.a false eP]))) (.c (decide ((0:Int)<=0) &&decide (0<=i64.wrap (ai-1)) &&decide (i64.wrap (ai-1)<=ai)) (.g ((.b,[.h (List.take (ak.toNat-Int.toNat (0:Int)) (List.drop (Int.toNat (0:Int)) s)),.e 0 0],[.a false eP]))) .d)) .d) .d) (.g ((.a 0,[.h s],[.a false eP])))):af (aU×List aa×List aj)).D:=ae
def Gj:qp eP=true:=ae
def K3(s r:List UInt8):Prop:=r.length<=s.length/\((∀c∈s,kh c.toNat=true)->r=[])
def K4(r:List UInt8):aU×List aa×List aj:=(.a 0,[.h r],[.a false eP])
def SQ(c:UInt8):(0:Int)<=(c.toNat:Int)/\(c.toNat:Int)<256:=by have:=c.toNat_lt;omega
def Gk:List UInt8->List UInt8
 | []=> []
 |c::s=>bif kh (c.toNat:Int)then Gk s else c::s
def Gl:Nat->List UInt8->List UInt8
 |0,_=> []
 |n+1,s=>bif kh ((s.getD n 0).toNat:Int)then Gl n (s.take n)else s
def adF:∀(s:List UInt8),s.length<=9223372036854775807->∃r,(K3 s r/\r=Gk s)/\bw an qq vZ 1 1 [.h s,.e 0 0] [.a false eP] (K4 r)
 | [],_=>by refine bw.I SN 0 ae ae cv (dK.U (adD []) ?_);exact dK.D (λh=>by simp at h) (λ_=>.I ⟨[],⟨⟨bj _,λ_=>rfl⟩,rfl⟩,rfl⟩)
 |c::s,hs=>by
  have hs':s.length+1<=9223372036854775807:=by simpa using hs
  refine bw.I SN 0 ae ae cv (dK.U (adD (c::s)) ?_);have hb:=SQ c;have e0:(c::s).getD (Int.toNat 0) 0=c:=rfl;rw[e0,Gj];refine dK.D (λ_=> ?_) (λh=>absurd h (by first | (simp;done) | (simp;omega)));refine dK.D (λ_=> ?_) (λh=>absurd h (by first | (simp;done) | (simp;omega)));refine dK.D (λ_=> ?_) (λh=>absurd h (by first | (simp;done) | (simp;omega)));refine dK.D (λh=>.I ⟨c::s,⟨⟨bj _,λha=> ?_⟩,?_⟩,rfl⟩) (λhq=> ?_)
  ·have:=ha c aB;rw[this]at h;cases h
  ·cases hw:kh (c.toNat:Int)with
   |true=>rw[hw]at h;cases h
   |false=>rw[Gk,hw];rfl
  ·refine dK.D (λ_=> ?_) (λh=>absurd h (by first | (simp;done) | (simp;omega)));obtain⟨r,⟨⟨h1,h2⟩,hr⟩,h3⟩:=adF s ab;have e1:List.take (((c::s).length:Int).toNat-Int.toNat 1) (List.drop (Int.toNat 1) (c::s))=s:=by have:Int.toNat 1=1:=rfl;rw[this];simp
   rw[e1];refine .I ⟨r,⟨⟨by simp;omega,λha=>h2 λx hx=>ha x (oX _ hx)⟩,?_⟩,h3⟩;cases hw:kh (c.toNat:Int)with
   |false=>rw[hw]at hq;cases hq
   |true=>rw[Gk,hw];exact hr
def adG:∀(n:Nat)(s:List UInt8),s.length=n->s.length<=9223372036854775807->∃r,(K3 s r/\r=Gl n s)/\bw an qq v_ 1 1 [.h s,.e 0 0] [.a false eP] (K4 r)
 |0,s,h0,_=>by obtain rfl:=xg h0;refine bw.I SO 0 ae ae cv (dK.U (adE []) ?_);exact dK.D (λh=>by simp at h) (λ_=>.I ⟨[],⟨⟨bj _,λ_=>rfl⟩,rfl⟩,rfl⟩)
 |n+1,s,h0,hs=>by
  refine bw.I SO 0 ae ae cv (dK.U (adE s) ?_);rw[ep (n:=(s.length:Int)-1) ab ab];have e2:(s.length:Int)-1=(n:Int):=ab;rw[e2,dE];have hn:n<s.length:=ab;have hg:s.getD n 0=s[n]:=by rw[dD,cV hn];rfl
  rw[hg,Gj];have hb:=SQ s[n];refine dK.D (λ_=> ?_) (λh=>by rw[BB]at h;omega);refine dK.D (λ_=> ?_) (λh=>absurd h (by first | (simp;done) | (simp;omega)));refine dK.D (λ_=> ?_) (λh=>absurd h (by first | (simp;done) | (simp;omega)));refine dK.D (λh=>.I ⟨s,⟨⟨bj _,λha=> ?_⟩,?_⟩,rfl⟩) (λhq=> ?_)
  ·have:=ha s[n] (mE hn);rw[this]at h;cases h
  ·cases hw:kh (s[n].toNat:Int)with
   |true=>rw[hw]at h;cases h
   |false=>rw[Gl,hg,hw];rfl
  ·refine dK.D (λ_=> ?_) (λh=>absurd h (by first | (simp;done) | (simp;omega)));have e1:List.take (n-Int.toNat 0) (List.drop (Int.toNat 0) s)=s.take n:=rfl;rw[e1];obtain⟨r,⟨⟨h1,h2⟩,hr⟩,h3⟩:=adG n (s.take n) (by simp;omega) (by simp;omega);refine .I ⟨r,⟨⟨by simp at h1;omega,λha=>h2 λx hx=>ha x (List.mem_of_mem_take hx)⟩,?_⟩,h3⟩;cases hw:kh (s[n].toNat:Int)with
   |false=>rw[hw]at hq;cases hq
   |true=>rw[Gl,hg,hw];exact hr
def yD(s:List UInt8):List UInt8:=Gk s
def uA(s:List UInt8):List UInt8:=Gl s.length s
def arO(s)(hs:s.length<=9223372036854775807):K3 s (yD s)/\bw an qq vZ 1 1 [.h s,.e 0 0] [.a false eP] (K4 (yD s)):=by obtain⟨r,⟨h1,rfl⟩,h2⟩:=adF s hs;exact⟨h1,h2⟩
def adH(s)(hs:s.length<=9223372036854775807):K3 s (uA s)/\bw an qq v_ 1 1 [.h s,.e 0 0] [.a false eP] (K4 (uA s)):=by obtain⟨r,⟨h1,rfl⟩,h2⟩:=adG s.length s rfl hs;exact⟨h1,h2⟩
def K5:dk:=λm key vs os=>match vs,os with
 | [.h s,.e 0 0],[.a false cs]=>.I (decide (s.length<=9223372036854775807) &&qp cs &&Nat.beq m 1 &&Nat.beq key 1) (.g (.a 0,[.h (yD s)],[.a false eP]))
 |_,_=>.d
def K6:dk:=λm key vs os=>match vs,os with
 | [.h s,.e 0 0],[.a false cs]=>.I (decide (s.length<=9223372036854775807) &&qp cs &&Nat.beq m 1 &&Nat.beq key 1) (.g (.a 0,[.h (uA s)],[.a false eP]))
 |_,_=>.d
def K7{cs}(h:qp cs=true):cs=eP:=K0 _ _ h
def arP:cJ an qq vZ K5:=by
 intro m key vs os r h;unfold K5 at h;split at h
 ·obtain⟨h1,h2⟩:=aO h;simp only[au,bC,aNx]at h1;obtain⟨⟨⟨hs,hc⟩,rfl⟩,rfl⟩:=h1;obtain rfl:=K7 hc;simp only[af.D,Option.some.injEq]at h2;subst h2;exact(arO _ hs).2
 ·simp[af.D]at h
def arQ:cJ an qq v_ K6:=by
 intro m key vs os r h;unfold K6 at h;split at h
 ·obtain⟨h1,h2⟩:=aO h;simp only[au,bC,aNx]at h1;obtain⟨⟨⟨hs,hc⟩,rfl⟩,rfl⟩:=h1;obtain rfl:=K7 hc;simp only[af.D,Option.some.injEq]at h2;subst h2;exact(adH _ hs).2
 ·simp[af.D]at h
def SR:aq| [.h s,.e 0 0],[.a false cs]=>.I (decide (s.length<=9223372036854775807) &&qp cs) (.g (.a (.h (yD s)) [.a false eP])) |_,_=>.d
def SS:aq| [.h s,.e 0 0],[.a false cs]=>.I (decide (s.length<=9223372036854775807) &&qp cs) (.g (.a (.h (uA s)) [.a false eP])) |_,_=>.d
def arR(s)(hs:s.length<=9223372036854775807):(aI (ay an qq vZ K5) false f148 [.h s,.e 0 0] [.a false eP]).D=some (.a (.h (yD s)) [.a false eP]):=by have e:(aI (ay an qq vZ K5) false f148 [.h s,.e 0 0] [.a false eP]).D=(af.c (decide (s.length<=9223372036854775807) &&qp eP &&Nat.beq 1 1 &&Nat.beq 1 1) (.g (aC.a (.h (yD s)) [.a false eP])) .d).D:=ae;rw[e,Gj,dA,if_pos (by simpa using hs)];rfl
def arS(s)(hs:s.length<=9223372036854775807):(aI (ay an qq v_ K6) false f149 [.h s,.e 0 0] [.a false eP]).D=some (.a (.h (uA s)) [.a false eP]):=by have e:(aI (ay an qq v_ K6) false f149 [.h s,.e 0 0] [.a false eP]).D=(af.c (decide (s.length<=9223372036854775807) &&qp eP &&Nat.beq 1 1 &&Nat.beq 1 1) (.g (aC.a (.h (uA s)) [.a false eP])) .d).D:=ae;rw[e,Gj,dA,if_pos (by simpa using hs)];rfl
def arT:aH 148 SR:=dN aW c_ adC SN rfl arP λp q r h=>by
 unfold SR at h;split at h
 ·obtain⟨h1,h2⟩:=aO h;simp only[au,bC]at h1;obtain rfl:=K7 h1.2;exact(arR _ h1.1).trans h2
 ·cases h
def arU:aH 149 SS:=dN aW c_ adC SO rfl arQ λp q r h=>by
 unfold SS at h;split at h
 ·obtain⟨h1,h2⟩:=aO h;simp only[au,bC]at h1;obtain rfl:=K7 h1.2;exact(arS _ h1.1).trans h2
 ·cases h
def wu:List UInt8:=[65,66,67,68,69,70,71,72,73,74,75,76,77,78,79,80,81,82,83,84,85,86,87,88,89,90,97,98,99,100,101,102,103,104,105,106,107,108,109,110,111,112,113,114,115,116,117,118,119,120,121,122,48,49,50,51,52,53,54,55,56,57,95]
def arV:yg prog an 147 [.h wu] [] (.a (.q [.u eP,.p true]) []):=PN (AJ 8 147) ae
def K8:List aa:=match cO 1 with | .A cs=>cs |_=> []
def arW:yg prog an 106 [] [] (.a (.d 9 K8) []):=PN (AJ 8 106) ae
def SU:aq| [.h s],[]=>.I (s==wu) (.g (.a (.q [.u eP,.p true]) [])) |_,_=>.d
def arX:aH 147 SU:=Af (g:=an) λp q r h=>by
 unfold SU at h;split at h
 ·obtain⟨h1,h2⟩:=aO h;rw[qM]at h1;subst h1;simp only[af.D,Option.some.injEq]at h2;subst h2;exact arV
 ·cases h
def SV:aq| [],[]=>.g (.a (.d 9 K8) []) |_,_=>.d
def arY:aH 106 SV:=Af (g:=an) λp q r h=>by
 unfold SV at h;split at h
 ·simp only[af.D,Option.some.injEq]at h;subst h;exact arW
 ·cases h
def Gm(s:List UInt8):List UInt8:=match s.isEmpty with |true=>s |false=>yD (uA s)
def SW:aq| [.h s,.h t],[]=>.I (decide (s.length<=9223372036854775807) && (t==wu)) (.g (.a (.h (Gm s)) [])) |_,_=>.d
def adI:FuncId->aq:=aL [(147,SU),(148,SR),(149,SS)]
def arZ(s):(aI (ay an adI Qa aK) false f104 [.h s,.h wu] []).D=((af.c (!s==[]) (.c (decide (s.length<=cg) &&qp eP) (.c (decide ((uA s).length<=cg) &&qp eP) (al (.h (yD (uA s))) []) .d) .d) (al (.h s) []))).D:=ae
def ar0:∀k,aH k (adI k):=aA arX (aA arT (aA arU aQ))
def ar1:aH 104 SW:=bI ar0 arJ λp q r h=>by
 unfold SW at h;split at h
 ·rename_i s t;obtain⟨h1,h2⟩:=aO h;simp only[au,bC,qM]at h1;obtain⟨hs,rfl⟩:=h1;refine(arZ _).trans (bS ?_ h2);rw[Gj];unfold Gm;cases s with
  |nil=>rfl
  |cons c s=>have h3:=(adH (c::s) hs).1.1;have h4:(uA (c::s)).length<=9223372036854775807:=eb h3 hs;simp only[dA,hs,h4,decide_true,Bool.and_self];rfl
 ·cases h
def SX:List UInt8:=wu.take 52
def jX(s:List UInt8):Bool:= !(s==[]) &&decide (s.length<=16) &&decide (0<=ka (s.getD 0 0).toNat SX 0) && (Gm s==[]) && !(bc (uz s) K8 0).isSome
def wv:aq| [.h s],[]=>.g (.a (.p (jX s)) []) |_,_=>.d
def adJ:FuncId->aq:=aL [(71,rk),(104,SW),(106,SV),(105,KV)]
def ar5:∀k,aH k (adJ k):=aA adl (aA ar1 (aA arY (aA ado aQ)))
def ar6(s):(aI (ay an adJ Qb aK) false f63 [.h s] []).D=((letI ai:=(↑(s.getD (Int.toNat (0:Int)) 0).toNat:Int);letI ak:af aC:=al (.p false) [];af.c (!s==[]) (.c (decide ((↑s.length:Int)<=16)) (.c (decide ((0:Int)<=0) &&decide (0<(↑s.length:Int))) (.c (decide (0<=ai) &&decide (ai<256)) (.c (decide (ka ai.toNat SX 0>=0)) (.c (decide (s.length<=cg) &&wu==wu) (.c (Gm s==[]) (al (.p !(bc (uz s) K8 0).isSome) []) ak) .d) ak) .d) .d) ak) ak):af aC).D:=ae
def yE:aH 63 wv:=bI ar5 arK λp q r h=>by
 unfold wv at h;split at h
 ·rename_i s;refine(ar6 _).trans (bS ?_ h);unfold jX;cases s with
  |nil=>rfl
  |cons c s=>
   have hb:=SQ c;have e0:(c::s).getD (Int.toNat 0) 0=c:=rfl;have e1:(c::s).getD 0 0=c:=rfl;have e2:(!(c::s==[]))=true:=rfl;have e3:(decide ((0:Int)<=0) &&decide ((0:Int)<((c::s).length:Int)))=true:=by first | (simp;done) | (simp;omega)
   have e4:(decide ((0:Int)<=(c.toNat:Int)) &&decide ((c.toNat:Int)<256))=true:=by first | (simp;done) | (simp;omega)
   rw[e0,e1,e2,e3,e4,dE];simp only[dA,fU,if_true];by_cases h1:(c::s).length<=16
   ·have h1':decide (((c::s).length:Int)<=16)=true:=aD ab;have h3:(decide ((c::s).length<=9223372036854775807) &&wu==wu)=true:=by simp;simp at h1;omega
    rw[h1',h3];simp only[bC,h1,decide_true,qJ,if_true,ge_iff_le];by_cases h2:0<=ka c.toNat SX 0
    ·simp only[h2,decide_true,qJ,if_true];cases(Gm (c::s)==[])<;>rfl
    ·simp only[h2,HT,Ng,xj]
   ·have h1':decide (((c::s).length:Int)<=16)=false:=ly ab;rw[h1'];simp only[h1,HT,Ng,Bool.and_false];rfl
 ·cases h
end
end Go.Proofs.YtkcikbcpjdccmaaGreatDoor
