/- An abstract run of Go's code: values as trees, a small heap of what may be written, tests left open as a tree. Plain definitions. -/
import Derived.WalkKit
namespace Go.AH
open Go

/-- A result with open tests in front. -/
inductive Tr (α : Type) where
  | ret (a : α) | ite (b : Bool) (t e : Tr α) | fail
def Tr.eval {α : Type} : Tr α → Option α
  | .ret a => some a
  | .ite b t e => (match b with | true => t.eval | false => e.eval)
  | .fail => none
def Tr.bind {α β : Type} : Tr α → (α → Tr β) → Tr β
  | .ret a, f => f a
  | .ite b t e, f => .ite b (t.bind f) (e.bind f)
  | .fail, _ => .fail
def Tr.test {α : Type} (b : Bool) (t : Tr α) : Tr α := .ite b t .fail

inductive V where
  | top
  | bool (b : Bool) | int (k : IntKind) (n : Int) | str (s : List UInt8)
  | nilp | nilm | nilf | nili
  | agg (cs : List V) | tup (vs : List V)
  | seq (t : TypeId) (vs : List V)
  | pref (cs : List V)
  | dict (t : TypeId) (ks vs : List V)
  | clo (f : FuncId) (first caps : List V)
  | iface (t : TypeId) (v : V)
  | box (i j : Nat) | full (t : TypeId) (i g n : Nat) | sub (t : TypeId) (i g o n : Nat) | elt (i g k j : Nat) | mref (i : Nat)
  deriving Inhabited

def V.cells : V → List V
  | .agg cs => cs
  | v => [v]
def V.toB : V → Bool | .bool b => b | _ => false
def V.toI : V → Int | .int _ n => n | _ => 0
def V.toS : V → List UInt8 | .str s => s | _ => []
def V.toL : V → List V | .seq _ vs => vs | _ => []
def V.cell (v : V) (j : Nat) : V := v.cells.getD j .top

/-- What a cell holds. -/
inductive Kd where
  | bool | int (k : IntKind) | str | seq (e : TypeId) | ptr | map | func | iface | oth
  deriving DecidableEq, Inhabited
inductive TD where
  | other | struct (fs : List (Nat × Nat × Bool)) | slice (e : TypeId) | array (n : Nat) (e : TypeId) | map (k e : TypeId) | ptr (e : TypeId) | str | int (k : IntKind) | bool | func | iface
  deriving DecidableEq, Inhabited
structure Ty where
  size : Nat
  agg : Bool
  bytes : Nat
  kinds : List Kd
  d : TD
  eq : Bool
  deriving DecidableEq, Inhabited
def tyNone : Ty := ⟨0, false, 0, [], .other, false⟩
/-- A row of the table that is one of the program's. -/
def Ty.ok (T : Ty) : Bool := match T.d with | .other => false | _ => true

def eta : Kd → V → V
  | .bool, v => .bool v.toB
  | .int k, v => .int k v.toI
  | .str, v => .str v.toS
  | .seq e, v => .seq e v.toL
  | _, v => v
def etaL : List Kd → Nat → V → List V
  | [], _, _ => []
  | k :: ks, j, v => eta k (v.cell j) :: etaL ks (j + 1) v
def etaT (T : Ty) (v : V) : V := match T.agg with
  | true => .agg (etaL T.kinds 0 v)
  | false => match T.kinds with
    | [k] => eta k v
    | _ => v
def isForm : Kd → V → Bool
  | .bool, .bool _ => true
  | .int k, .int k' _ => decide (k = k')
  | .str, .str _ => true
  | .seq e, .seq e' vs => Nat.beq e e' || vs.isEmpty
  | .ptr, v => (match v with | .nilp | .pref _ => true | _ => false)
  | .map, v => (match v with | .nilm | .dict .. => true | _ => false)
  | .func, v => (match v with | .nilf | .clo .. => true | _ => false)
  | .iface, v => (match v with | .nili | .iface .. => true | _ => false)
  | _, _ => false
def isFormL : List Kd → List V → Bool
  | [], [] => true
  | k :: ks, v :: vs => isForm k v && isFormL ks vs
  | _, _ => false
def isFormT (T : Ty) (v : V) : Bool := match T.agg with
  | true => (match v with | .agg cs => isFormL T.kinds cs | _ => false)
  | false => match T.kinds with
    | [k] => isForm k v
    | _ => false
def zeroK : Kd → V
  | .bool => .bool false | .int k => .int k 0 | .str => .str [] | .seq e => .seq e [] | .ptr => .nilp | .map => .nilm | .func => .nilf | .iface => .nili | .oth => .top
def zeroT (T : Ty) : V := match T.agg with
  | true => .agg (T.kinds.map zeroK)
  | false => match T.kinds with
    | [k] => zeroK k
    | _ => .top
def pack (a : Bool) (cs : List V) : V := match a with
  | true => .agg cs
  | false => cs.headD .top

inductive Ob where
  | dead
  | box (ro : Bool) (cs : List V)
  | row (ro : Bool) (g : Nat) (t : TypeId) (vs : List V)
  | dict (ro : Bool) (t : TypeId) (ks vs : List V)
  deriving Inhabited

structure St where
  slot : Nat → V
  ob : Nat → Ob
  next : Nat

inductive Out where
  | ret (v : V) (objs : List Ob)
  | panic (v : V) (objs : List Ob)

inductive Ex where
  | normal | exit (id : Nat) | goto (l : Nat) | ret | panic (v : V)

structure Env where
  ty : TypeId → Ty
  C : FuncId → List V → List Ob → Tr Out
  L : Nat → List V → List Ob → Tr (Ex × List V × List Ob)
  mode : FuncId → List Bool
  glob : Nat → V
  keep : Nat → List Nat
  keepX : Nat → List Nat

def upd {α : Type} (f : Nat → α) (i : Nat) (x : α) : Nat → α := fun j => (match Nat.beq j i with | true => x | false => f j)
def updL {α : Type} (f : Nat → α) : List (Nat × α) → Nat → α
  | [] => f
  | (i, x) :: r => updL (upd f i x) r

/- References. -/
mutual
def V.mapRef (φ : V → V) : V → V
  | .agg cs => .agg (V.mapRefs φ cs)
  | .tup cs => .tup (V.mapRefs φ cs)
  | .clo f a b => .clo f (V.mapRefs φ a) (V.mapRefs φ b)
  | .iface t v => .iface t (v.mapRef φ)
  | .box i j => φ (.box i j)
  | .full t i g n => φ (.full t i g n)
  | .sub t i g o n => φ (.sub t i g o n)
  | .elt i g k j => φ (.elt i g k j)
  | .mref i => φ (.mref i)
  | v => v
def V.mapRefs (φ : V → V) : List V → List V
  | [] => []
  | v :: vs => v.mapRef φ :: V.mapRefs φ vs
end
mutual
def V.refs : V → List Nat
  | .agg cs => V.refsL cs
  | .tup cs => V.refsL cs
  | .clo _ a b => V.refsL a ++ V.refsL b
  | .iface _ v => v.refs
  | .box i _ => [i] | .full _ i _ _ => [i] | .sub _ i _ _ _ => [i] | .elt i _ _ _ => [i] | .mref i => [i]
  | _ => []
def V.refsL : List V → List Nat
  | [] => []
  | v :: vs => v.refs ++ V.refsL vs
end
def V.noRef (v : V) : Bool := v.refs.isEmpty
mutual
/-- No memory is seen through the value (but through its references). -/
def V.flat : V → Bool
  | .top => false
  | .agg cs => V.flatL cs
  | .tup cs => V.flatL cs
  | .clo _ a b => V.flatL a && V.flatL b
  | .iface _ v => v.flat
  | .seq _ _ => false
  | .pref _ => false
  | .dict .. => false
  | _ => true
def V.flatL : List V → Bool
  | [] => true
  | v :: vs => v.flat && V.flatL vs
end
def Kd.plain : Kd → Bool | .bool => true | .int _ => true | .str => true | _ => false
def Ob.refs : Ob → List Nat
  | .box _ cs => V.refsL cs
  | _ => []
def Ob.flatIn (T : TypeId → Ty) : Ob → Bool
  | .box _ cs => V.flatL cs
  | .row _ _ t _ => (T t).kinds.all Kd.plain
  | .dict _ t _ _ => (match (T t).d with | .map k e => (T k).kinds.all Kd.plain && (T e).kinds.all Kd.plain | _ => false)
  | .dead => true
def addNew (seen : List Nat) : List Nat → List Nat
  | [] => seen
  | i :: r => (match seen.contains i with | true => addNew seen r | false => addNew (seen ++ [i]) r)
def reachGo (h : Nat → Ob) : Nat → List Nat → Nat → List Nat
  | 0, seen, _ => seen
  | n + 1, seen, k => match seen[k]? with
    | none => seen
    | some i => reachGo h n (addNew seen (h i).refs) (k + 1)
def reach (h : Nat → Ob) (start : List Nat) : List Nat := reachGo h 64 (addNew [] start) 0
def pos (p : List Nat) (i : Nat) : Option Nat := match p with
  | [] => none
  | j :: r => (match Nat.beq i j with | true => some 0 | false => (pos r i).map (· + 1))
/-- References renamed: the object by 'f', the generation by 'γ' (of the object, and of the reference). -/
def renRef (f : Nat → Option Nat) (γ : Nat → Nat → Option Nat) (v : V) : V := match v with
  | .box i j => (match f i with | some k => .box k j | none => .top)
  | .full t i g n => (match f i, γ i g with | some k, some g' => .full t k g' n | _, _ => .top)
  | .sub t i g o n => (match f i, γ i g with | some k, some g' => .sub t k g' o n | _, _ => .top)
  | .elt i g a j => (match f i, γ i g with | some k, some g' => .elt k g' a j | _, _ => .top)
  | .mref i => (match f i with | some k => .mref k | none => .top)
  | v => v
/-- What becomes of the generations: of references that are up to date alone. -/
def genAt (h : Nat → Ob) (δ : Nat → Nat → Nat) (i g : Nat) : Option Nat := match h i with
  | .row _ g' _ _ => (match Nat.beq g g' with | true => some (δ i g') | false => none)
  | _ => none
def Ob.ren (φ : V → V) (g : Nat → Nat) : Ob → Ob
  | .box ro cs => .box ro (V.mapRefs φ cs)
  | .row ro g' t vs => .row ro (g g') t vs
  | .dict ro t ks vs => .dict ro t ks vs
  | .dead => .dead

/-- The heap named anew: object k is what was object ids[k]. -/
def reV (h : Nat → Ob) (δ : Nat → Nat → Nat) (ids : List Nat) (v : V) : V := v.mapRef (renRef (pos ids) (genAt h δ))
def reO (h : Nat → Ob) (δ : Nat → Nat → Nat) (ids : List Nat) : List Ob := ids.map fun i => (h i).ren (renRef (pos ids) (genAt h δ)) (δ i)
def gen0 : Nat → Nat → Nat := fun _ _ => 0
def genC (m : Nat) : Nat → Nat → Nat := fun i g => (match Nat.blt i m with | true => min g 1 | false => 0)
def genE (m : Nat) : Nat → Nat → Nat := fun i g => (match Nat.blt i m with | true => g | false => 0)
def ofList {α : Type} (d : α) : List (Nat × α) → Nat → α
  | [], _ => d
  | (i, x) :: r, j => (match Nat.beq j i with | true => x | false => ofList d r j)
def hOf : List Ob → Nat → Ob
  | [], _ => .dead
  | o :: _, 0 => o
  | _ :: r, n + 1 => hOf r n

/-- A value as it is read, without references. -/
def toTree (T : TypeId → Ty) (h : Nat → Ob) : Nat → V → V
  | 0, _ => .top
  | n + 1, v => v.mapRef fun r => match r with
    | .full _ i g _ => (match h i with | .row _ g' t vs => (match Nat.beq g g' with | true => .seq t vs | false => .top) | _ => .top)
    | .sub _ i g o m => (match h i with | .row _ g' t vs => (match Nat.beq g g' with | true => .seq t ((vs.drop o).take m) | false => .top) | _ => .top)
    | .elt i g k j => (match h i with | .row _ g' t vs => (match Nat.beq g g' with | true => .pref ((etaT (T t) (vs.getD k .top)).cells.drop j) | false => .top) | _ => .top)
    | .box i j => (match h i with | .box _ cs => .pref ((cs.drop j).map (toTree T h n)) | _ => .top)
    | .mref i => (match h i with | .dict _ t ks vs => .dict t ks vs | _ => .top)
    | _ => .top
def treeFuel : Nat := 8

def Ob.setRo : Ob → Ob
  | .box _ cs => .box true cs
  | .row _ g t vs => .row true g t vs
  | .dict _ t ks vs => .dict true t ks vs
  | .dead => .dead
def Ob.gen : Ob → Nat | .row _ g _ _ => g | _ => 0

def ofConst : Value → V
  | .bool b => .bool b
  | .int k n => .int k n
  | .string s => .str s.data.toList
  | .slice none 0 0 => .seq 0 []
  | .pointer none => .nilp
  | .map none => .nilm
  | .nilFunc => .nilf
  | .nilIface => .nili
  | .agg cs => .agg (cs.toList.map one)
  | _ => .top
where one : Value → V
  | .bool b => .bool b
  | .int k n => .int k n
  | .string s => .str s.data.toList
  | .slice none 0 0 => .seq 0 []
  | .pointer none => .nilp
  | .map none => .nilm
  | .nilFunc => .nilf
  | .nilIface => .nili
  | _ => .top
def ev (E : Env) (s : Nat → V) : Operand → V
  | .tmp t => s t
  | .const v => ofConst v
  | .func f => .clo f [] []
  | .global g => E.glob g

/-- A bound that may be left out. -/
def loI (E : Env) (s : Nat → V) (x : Option Operand) (d : Int) : Option Int := match x with
  | some l => (match ev E s l with | .int _ n => some n | _ => none)
  | none => some d
/-- The elements of a slice: its type, and what it holds. -/
def els (h : Nat → Ob) : V → Option (TypeId × List V)
  | .seq t vs => some (t, vs)
  | .full _ i g _ => (match h i with | .row _ g' t vs => (match Nat.beq g g' with | true => some (t, vs) | false => none) | _ => none)
  | .sub _ i g o m => (match h i with | .row _ g' t vs => (match Nat.beq g g' with | true => some (t, (vs.drop o).take m) | false => none) | _ => none)
  | _ => none
/-- The cells from a pointer on. -/
def cellsAt (T : TypeId → Ty) (h : Nat → Ob) : V → Option (List V)
  | .pref cs => some cs
  | .box i j => (match h i with | .box _ cs => some (cs.drop j) | _ => none)
  | .elt i g k j => (match h i with | .row _ g' t vs => (match Nat.beq g g' with | true => some ((etaT (T t) (vs.getD k .top)).cells.drop j) | false => none) | _ => none)
  | _ => none
def lenV : V → Option Nat
  | .seq _ vs => some vs.length
  | .full _ _ _ n => some n
  | .sub _ _ _ _ n => some n
  | _ => none

def eqV : V → V → Option Bool
  | .bool a, .bool b => some (a == b)
  | .int j a, .int k b => (match decide (j = k) with | true => some (a == b) | false => none)
  | .str a, .str b => some (a == b)
  | _, _ => none
def eqP : V → V → Option Bool
  | .nilp, .nilp => some true
  | .nilp, .pref _ => some false | .nilp, .box .. => some false | .nilp, .elt .. => some false
  | .pref _, .nilp => some false | .box .., .nilp => some false | .elt .., .nilp => some false
  | _, _ => none
def eqF : V → V → Option Bool
  | .nilf, .nilf => some true
  | .nilf, .clo .. => some false | .clo .., .nilf => some false
  | _, _ => none
def eqCells : List V → List V → Option Bool
  | [], [] => some true
  | a :: as, b :: bs => match eqV a b, eqCells as bs with
    | some x, some y => some (x && y)
    | _, _ => none
  | _, _ => none
/-- '==' at a type. -/
def eqT (T : Ty) (a b : V) : Option Bool := match a, b with
  | .agg xs, .agg ys => (match T.d with
    | .struct _ => (match T.eq && isFormL T.kinds xs && isFormL T.kinds ys with
      | true => eqCells xs ys | false => none)
    | _ => none)
  | .bool a, .bool b => (match T.d with | .bool => some (a == b) | _ => none)
  | a, b => (match T.d with | .ptr _ => eqP a b | .func => eqF a b | _ => none)

/-- Keys are compared as what their type says that they are. -/
def keySame (T : Ty) (a b : V) : Bool := match T.agg with
  | true => (eqCells (etaL T.kinds 0 a) (etaL T.kinds 0 b)).getD false
  | false => match T.kinds with
    | [k] => (eqV (eta k a) (eta k b)).getD false
    | _ => false
def dictFind (T : Ty) (k : V) : List V → List V → Option V
  | x :: xs, y :: ys => (match keySame T k x with | true => some y | false => dictFind T k xs ys)
  | _, _ => none
def dictPut (T : Ty) (k v : V) : List V → List V → List V × List V
  | x :: xs, y :: ys => (match keySame T k x with | true => (k :: xs, v :: ys) | false => let r := dictPut T k v xs ys; (x :: r.1, y :: r.2))
  | _, _ => ([k], [v])
def plainKey (T : Ty) : Bool := T.kinds.all Kd.plain && (match T.agg with | true => T.eq | false => (match T.d with | .str => true | .int _ => true | .bool => true | _ => false))

def bitsV (op : BinOp) (k : IntKind) (x y : Int) : Option Int :=
  match op with
  | .and => some (k.wrap (BitVec.ofInt k.bits x &&& BitVec.ofInt k.bits y).toNat)
  | .or => some (k.wrap (BitVec.ofInt k.bits x ||| BitVec.ofInt k.bits y).toNat)
  | .xor => some (k.wrap (BitVec.ofInt k.bits x ^^^ BitVec.ofInt k.bits y).toNat)
  | .andNot => some (k.wrap (BitVec.ofInt k.bits x &&& ~~~BitVec.ofInt k.bits y).toNat)
  | _ => none

def binInt (op : BinOp) (k : IntKind) (x y : Int) : Tr V :=
  match op with
  | .add => .ret (.int k (k.wrap (x + y)))
  | .sub => .ret (.int k (k.wrap (x - y)))
  | .mul => .ret (.int k (k.wrap (x * y)))
  | .quo => .test (decide (y ≠ 0)) (.ret (.int k (k.wrap (x.tdiv y))))
  | .rem => .test (decide (y ≠ 0)) (.ret (.int k (x.tmod y)))
  | .eql => .ret (.bool (x == y))
  | .neq => .ret (.bool (x != y))
  | .lss => .ret (.bool (decide (x < y)))
  | .leq => .ret (.bool (decide (x ≤ y)))
  | .gtr => .ret (.bool (decide (x > y)))
  | .geq => .ret (.bool (decide (x ≥ y)))
  | op => match bitsV op k x y with
    | some z => .ret (.int k z)
    | none => .fail
def lim : Nat := 4294967296
def binV (T : Ty) (op : BinOp) (a b : V) : Tr V :=
  match a, b with
  | .int k x, .int k' y => (match op with
    | .shl => .test (decide (0 ≤ y)) (.ret (.int k (k.wrap (x * 2 ^ (min y.toNat k.bits)))))
    | .shr => .test (decide (0 ≤ y)) (.ret (.int k (x.fdiv (2 ^ (min y.toNat k.bits)))))
    | op => (match decide (k = k') with | true => binInt op k x y | false => .fail))
  | .str x, .str y => (match op with
    | .add => .test (decide (x.length + y.length ≤ lim)) (.ret (.str (x ++ y)))
    | .eql => .ret (.bool (x == y))
    | .neq => .ret (.bool !(x == y))
    | .lss => .ret (.bool (Op.bytesLess x y))
    | .gtr => .ret (.bool !(Op.bytesLess x y || x == y))
    | .leq => .ret (.bool (Op.bytesLess x y || x == y))
    | .geq => .ret (.bool !(Op.bytesLess x y))
    | _ => .fail)
  | x, y => (match op with
    | .eql => (match eqT T x y with | some r => .ret (.bool r) | none => .fail)
    | .neq => (match eqT T x y with | some r => .ret (.bool !r) | none => .fail)
    | _ => .fail)

def bytesOf : List V → List UInt8
  | [] => []
  | v :: r => UInt8.ofNat v.toI.toNat :: bytesOf r

abbrev Upd := List (Nat × Ob)
/-- What an operation comes to: a value, or a panic; and what has changed. -/
inductive Rs where
  | ok (v : V) (u : Upd) | pan (v : V) (u : Upd)

def newRow (fr : Nat) (t : TypeId) (vs : List V) : Tr Rs := .ret (.ok (.full t fr 0 vs.length) [(fr, .row false 0 t vs)])
def fillRow (T : Ty) (part : Operand → V) : List (Nat × Operand) → List V → Option (List V)
  | [], vs => some vs
  | (i, x) :: r, vs => (match isFormT T (part x) && (part x).noRef with
    | true => (match Nat.blt i vs.length with | true => fillRow T part r (vs.set i (etaT T (part x))) | false => none)
    | false => none)
def V.storable : V → Bool | .top => false | .tup _ => false | .agg _ => false | _ => true
def V.cellsOk : V → Bool | .agg _ => true | v => v.storable
def fillAgg (fs : List (Nat × Nat × Bool)) (part : Operand → V) : List (Nat × Operand) → List V → Option (List V)
  | [], cs => some cs
  | (i, x) :: r, cs => match fs[i]? with
    | some (off, n, _) => (match (part x).cellsOk && Nat.beq (part x).cells.length n && Nat.ble (off + n) cs.length with
      | true => fillAgg fs part r (cs.take off ++ (part x).cells ++ cs.drop (off + n))
      | false => none)
    | none => none

def appendV (h : Nat → Ob) (t : TypeId) (a : V) (news : List V) : Tr Rs :=
  match a with
  | .full _ i g _ => (match h i with
    | .row false g' t' vs => (match Nat.beq g g' && Nat.beq t t' with
      | true => .test (decide (vs.length + news.length ≤ lim)) (.ret (.ok (.full t i (g + 1) (vs ++ news).length) [(i, .row false (g + 1) t' (vs ++ news))]))
      | false => .fail)
    | _ => .fail)
  | .sub _ i g o m => (match h i with
    | .row false g' t' vs => (match Nat.beq g g' && Nat.beq t t' && Nat.beq o 0 with
      | true => .test (decide (m + news.length ≤ lim) && decide (0 < vs.length)) (.ret (.ok (.full t i (g + 1) (((vs.drop o).take m) ++ news).length) [(i, .row false (g + 1) t' (((vs.drop o).take m) ++ news))]))
      | false => .fail)
    | _ => .fail)
  | _ => .fail

def evBuiltin (E : Env) (h : Nat → Ob) (b : Builtin) (ts : Array TypeId) (args : List V) : Tr Rs :=
  match b, args with
  | .len, [v] => (match ts.toList with
    | [t] => (match (E.ty t).d, v with
      | .str, .str x => .ret (.ok (.int .i64 x.length) [])
      | .slice _, v => (match lenV v with | some n => .ret (.ok (.int .i64 n) []) | none => .fail)
      | _, _ => .fail)
    | _ => .fail)
  | .append, [a, b] => (match ts.toList with
    | [t, t'] => (match Nat.beq t t' with | false => .fail | true => match (E.ty t).d with
      | .slice e => (match (E.ty e).ok with | false => .fail | true => (match els h b with
        | some (e', new) => (match Nat.beq e e' || new.isEmpty with | true => appendV h e a new | false => .fail)
        | none => .fail))
      | _ => .fail)
    | _ => .fail)
  | .max, [.int k x, .int k' y] => (match decide (k = k') with | true => .ret (.ok (.int k (match decide (y > x) with | true => y | false => x)) []) | false => .fail)
  | .min, [.int k x, .int k' y] => (match decide (k = k') with | true => .ret (.ok (.int k (match decide (y < x) with | true => y | false => x)) []) | false => .fail)
  | _, _ => .fail

def split (byref : List Bool) : List V → List V × List V
  | [] => ([], [])
  | v :: r => let x := split byref.tail r; (match byref.headD false with | true => (v :: x.1, x.2) | false => (x.1, v :: x.2))
def passArgs (T : TypeId → Ty) (h : Nat → Ob) (φ : V → V) (byref : List Bool) : List V → List V
  | [] => []
  | v :: r => (match byref.headD false with | true => φ v | false => toTree T h treeFuel v) :: passArgs T h φ byref.tail r
def Ob.alive : Ob → Bool | .dead => false | _ => true
def Ob.rw : Ob → Bool | .box ro _ => !ro | .row ro _ _ _ => !ro | .dict ro _ _ _ => !ro | .dead => false
/-- What is seen as a tree, with all that it leads to, is no part of what is passed. -/
def apart (h : Nat → Ob) (ids bor : List Nat) : Bool := ids.all (fun i => (h i).alive) && bor.all fun i => (h i).alive && !ids.contains i && (h i).refs.all bor.contains
def backId (ids : List Nat) (fr : Nat) (k : Nat) : Nat := match ids[k]? with | some i => i | none => fr + (k - ids.length)
def backGen (h : Nat → Ob) (ids : List Nat) (k : Nat) : Nat := match ids[k]? with | some c => (h c).gen | none => 0
def backV (h : Nat → Ob) (ids : List Nat) (fr : Nat) (v : V) : V := v.mapRef (renRef (fun i => some (backId ids fr i)) (fun i g => some (g + backGen h ids i)))
def backOb (h : Nat → Ob) (ids : List Nat) (fr : Nat) (k : Nat) : List Ob → Upd
  | [] => []
  | o :: r => (backId ids fr k, o.ren (renRef (fun i => some (backId ids fr i)) (fun i g => some (g + backGen h ids i))) (· + backGen h ids k)) :: backOb h ids fr (k + 1) r
def freeze (T : TypeId → Ty) (h : Nat → Ob) (bor : List Nat) (v : V) (objs : List Ob) : Upd :=
  match v.flat && objs.all (fun o => o.flatIn T && (o.rw || !o.alive)) with | true => [] | false => bor.map fun i => (i, (h i).setRo)
def backU (T : TypeId → Ty) (h : Nat → Ob) (ids bor : List Nat) (fr : Nat) (v : V) (objs : List Ob) : Upd := freeze T h bor v objs ++ backOb h ids fr 0 objs
def backRs (T : TypeId → Ty) (h : Nat → Ob) (ids bor : List Nat) (fr : Nat) : Out → Tr Rs
  | .ret v objs => (match Nat.ble ids.length objs.length && Nat.ble objs.length (ids.length + 64) with
    | true => .ret (.ok (backV h ids fr v) (backU T h ids bor fr v objs))
    | false => .fail)
  | .panic v objs => (match Nat.ble ids.length objs.length && Nat.ble objs.length (ids.length + 64) && v.noRef with
    | true => .ret (.pan v (backU T h ids bor fr v objs))
    | false => .fail)
def evCall (E : Env) (h : Nat → Ob) (fr : Nat) (f : FuncId) (args : List V) : Tr Rs :=
  let ids := reach h (V.refsL (split (E.mode f) args).1)
  let bor := reach h (V.refsL (split (E.mode f) args).2)
  match apart h ids bor with
  | false => .fail
  | true => (E.C f (passArgs E.ty h (reV h gen0 ids) (E.mode f) args) (reO h gen0 ids)).bind (backRs E.ty h ids bor fr)

/-- A lookup's result: with ok, or without. -/
def withOk (ok : Bool) (v : V) (b : Bool) : V := match ok with | true => .tup [v, .bool b] | false => v
def optTr {α β : Type} (o : Option α) (f : α → Tr β) : Tr β := match o with | some a => f a | none => .fail

def evOp (E : Env) (h : Nat → Ob) (s : Nat → V) (fr : Nat) (o : Oper) : Tr Rs :=
  match o.op with
  | .move x => .ret (.ok (ev E s x) [])
  | .assign (.const (.slice none 0 0)) => (match (E.ty o.type).d with | .slice e => (match (E.ty e).ok with | true => newRow fr e [] | false => .fail) | _ => .fail)
  | .assign x => .ret (.ok (ev E s x) [])
  | .pick c a b => (match ev E s c with
    | .bool t => .ite t (.ret (.ok (ev E s a) [])) (.ret (.ok (ev E s b) []))
    | _ => .fail)
  | .alloc t => (match (E.ty t).ok with | false => .fail | true => .ret (.ok (.box fr 0) [(fr, .box false (zeroT (E.ty t)).cells)]))
  | .box t x => (match (E.ty t).ok && Nat.beq (ev E s x).cells.length (E.ty t).size && (ev E s x).cells.all V.storable with | true => .ret (.ok (.box fr 0) [(fr, .box false (ev E s x).cells)]) | false => .fail)
  | .build t parts => (match (E.ty t).d with
    | .struct fs => optTr (fillAgg fs (ev E s) parts.toList (zeroT (E.ty t)).cells) fun cs => .ret (.ok (.agg cs) [])
    | .array n e => optTr (match (E.ty e).ok with | false => none | true => fillAgg ((List.range n).map fun i => (i * (E.ty e).size, (E.ty e).size, false)) (ev E s) parts.toList (zeroT (E.ty t)).cells) fun cs => .ret (.ok (.agg cs) [])
    | _ => .fail)
  | .buildSlice t len parts => (match (E.ty t).d with
    | .slice e => (match Nat.ble len 65536 && (E.ty e).ok with
      | true => optTr (fillRow (E.ty e) (ev E s) parts.toList (List.replicate len (zeroT (E.ty e)))) fun vs => newRow fr e vs
      | false => .fail)
    | _ => .fail)
  | .load t a => optTr (match (E.ty t).ok with | true => cellsAt E.ty h (ev E s a) | false => none) fun cs =>
      (match (E.ty t).agg with
      | true => (match Nat.ble (E.ty t).size cs.length with | true => .ret (.ok (.agg (cs.take (E.ty t).size)) []) | false => .fail)
      | false => (match cs with | c :: _ => .ret (.ok c []) | [] => .fail))
  | .store t a x => (match ev E s a with
    | .box i j => (match h i with
      | .box false cs => (match (E.ty t).ok && Nat.beq (ev E s x).cells.length (E.ty t).size && Nat.ble (j + (ev E s x).cells.length) cs.length && (ev E s x).cells.all V.storable with
        | true => .ret (.ok .top [(i, .box false (cs.take j ++ (ev E s x).cells ++ cs.drop (j + (ev E s x).cells.length)))])
        | false => .fail)
      | _ => .fail)
    | .elt i g k j => (match h i with
      | .row false g' e vs => (match (E.ty t).ok && Nat.beq g g' && Nat.beq (ev E s x).cells.length (E.ty t).size && Nat.ble (j + (ev E s x).cells.length) (E.ty e).kinds.length
            && isFormL (((E.ty e).kinds.drop j).take (ev E s x).cells.length) (ev E s x).cells && (ev E s x).noRef with
        | true => .ret (.ok .top [(i, .row false g' e (vs.set k (pack (E.ty e).agg ((etaT (E.ty e) (vs.getD k .top)).cells.take j ++ etaL (((E.ty e).kinds.drop j).take (ev E s x).cells.length) 0 (.agg (ev E s x).cells) ++ (etaT (E.ty e) (vs.getD k .top)).cells.drop (j + (ev E s x).cells.length)))))])
        | false => .fail)
      | _ => .fail)
    | _ => .fail)
  | .binOp op t x y _ => (binV (E.ty t) op (ev E s x) (ev E s y)).bind fun v => .ret (.ok v [])
  | .unOp op _ x => (match op, ev E s x with
    | .not, .bool b => .ret (.ok (.bool !b) [])
    | .neg, .int k n => .ret (.ok (.int k (k.wrap (0 - n))) [])
    | _, _ => .fail)
  | .convert src dst x => (match (E.ty dst).d, ev E s x with
    | .int k, .int _ n => (match (E.ty src).ok with | true => .ret (.ok (.int k (k.wrap n)) []) | false => .fail)
    | .str, .str b => (match (E.ty src).d with | .str => .ret (.ok (.str b) []) | _ => .fail)
    | .str, v => (match (E.ty src).d with
      | .slice e => (match (E.ty e).d, els h v with
        | .int .u8, some (t, vs) => (match Nat.beq t e with | true => .ret (.ok (.str (bytesOf vs)) []) | false => .fail)
        | _, _ => .fail)
      | _ => .fail)
    | _, _ => .fail)
  | .makeFunc (.func f) a b => .ret (.ok (.clo f (a.toList.map (ev E s)) (b.toList.map (ev E s))) [])
  | .makeMap t none => (match (E.ty t).d with | .map .. => .ret (.ok (.mref fr) [(fr, .dict false t [] [])]) | _ => .fail)
  | .makeSlice t l c => (match (E.ty t).d, ev E s l, ev E s c with
    | .slice e, .int .i64 n, .int .i64 m => .test ((E.ty e).ok && decide (0 ≤ n) && decide (n = m) && decide (n ≤ (lim : Int))) (newRow fr e (List.replicate n.toNat (zeroT (E.ty e))))
    | _, _, _ => .fail)
  | .slice t x lo hi none => (match (E.ty t).d, ev E s x with
    | .str, .str b => (match loI E s lo 0, loI E s hi b.length with
      | some l, some hh => .test (decide (0 ≤ l) && decide (l ≤ hh) && decide (hh ≤ (b.length : Int))) (.ret (.ok (.str ((b.drop l.toNat).take (hh.toNat - l.toNat))) []))
      | _, _ => .fail)
    | .slice e, v => (match (E.ty e).ok, lenV v with
      | true, some len => (match loI E s lo 0, loI E s hi len with
        | some l, some hh => .test (decide (0 ≤ l) && decide (l ≤ hh) && decide (hh ≤ (len : Int))) (match v with
          | .seq t vs => (match Nat.beq t e || vs.isEmpty with | true => .ret (.ok (.seq t ((vs.drop l.toNat).take (hh.toNat - l.toNat))) []) | false => .fail)
          | .full t i g _ => (match Nat.beq t e with | true => .ret (.ok (.sub t i g l.toNat (hh.toNat - l.toNat)) []) | false => .fail)
          | .sub t i g o _ => (match Nat.beq t e with | true => .ret (.ok (.sub t i g (o + l.toNat) (hh.toNat - l.toNat)) []) | false => .fail)
          | _ => .fail)
        | _, _ => .fail)
      | _, _ => .fail)
    | _, _ => .fail)
  | .fieldAddr t x f => (match (E.ty t).d with
    | .struct fs => (match fs[f]?, ev E s x with
      | some (off, _, _), .pref cs => .ret (.ok (.pref (cs.drop off)) [])
      | some (off, _, _), .box i j => .ret (.ok (.box i (j + off)) [])
      | some (off, _, _), .elt i g k j => .ret (.ok (.elt i g k (j + off)) [])
      | _, _ => .fail)
    | _ => .fail)
  | .field t x f => (match (E.ty t).d with
    | .struct fs => (match fs[f]?, ev E s x with
      | some (off, n, a), .agg cs => (match Nat.ble (off + n) cs.length with
        | true => .ret (.ok (pack a ((cs.drop off).take n)) [])
        | false => .fail)
      | _, _ => .fail)
    | _ => .fail)
  | .indexAddr t x ix => (match ev E s ix with
    | .int _ n => (match (E.ty t).d with
      | .slice e => (match ev E s x with
        | .seq t vs => (match Nat.beq t e && (E.ty e).ok with
          | true => .test (decide (0 ≤ n) && decide (n < (vs.length : Int))) (.ret (.ok (.pref (etaT (E.ty e) (vs.getD n.toNat .top)).cells) []))
          | false => .fail)
        | .full t i g m => .test (Nat.beq t e && (E.ty e).ok && decide (0 ≤ n) && decide (n < (m : Int))) (.ret (.ok (.elt i g n.toNat 0) []))
        | .sub t i g o m => .test (Nat.beq t e && (E.ty e).ok && decide (0 ≤ n) && decide (n < (m : Int))) (.ret (.ok (.elt i g (o + n.toNat) 0) []))
        | _ => .fail)
      | .array m e => .test ((E.ty e).ok && decide (0 ≤ n) && decide (n < (m : Int))) (match ev E s x with
        | .pref cs => .ret (.ok (.pref (cs.drop (n.toNat * (E.ty e).size))) [])
        | .box i j => .ret (.ok (.box i (j + n.toNat * (E.ty e).size)) [])
        | .elt i g k j => .ret (.ok (.elt i g k (j + n.toNat * (E.ty e).size)) [])
        | _ => .fail)
      | _ => .fail)
    | _ => .fail)
  | .index t x ix => (match (E.ty t).d, ev E s x, ev E s ix with
    | .str, .str b, .int _ n => .test (decide (0 ≤ n) && decide (n < (b.length : Int))) (.ret (.ok (.int .u8 (b.getD n.toNat 0).toNat) []))
    | _, _, _ => .fail)
  | .lookup t x k ok => (match (E.ty t).d with
    | .map kt et =>
      let kv := ev E s k
      (match (E.ty kt).ok && (E.ty et).ok && isFormT (E.ty kt) kv && plainKey (E.ty kt) with
      | false => .fail
      | true =>
        let go := fun (ks vs : List V) => (.ite (dictFind (E.ty kt) kv ks vs).isSome
            (.ret (.ok (withOk ok (etaT (E.ty et) ((dictFind (E.ty kt) kv ks vs).getD .top)) true) []))
            (.ret (.ok (withOk ok (zeroT (E.ty et)) false) [])) : Tr Rs)
        (match ev E s x with
        | .mref i => (match h i with | .dict _ t' ks vs => (match Nat.beq t t' with | true => go ks vs | false => .fail) | _ => .fail)
        | .dict t' ks vs => (match Nat.beq t t' with | true => go ks vs | false => .fail)
        | .nilm => .ret (.ok (withOk ok (zeroT (E.ty et)) false) [])
        | _ => .fail))
    | _ => .fail)
  | .mapUpdate t m k x => (match (E.ty t).d with
    | .map kt et => (match (E.ty kt).ok && (E.ty et).ok && isFormT (E.ty kt) (ev E s k) && plainKey (E.ty kt) && isFormT (E.ty et) (ev E s x) && (ev E s x).noRef with
      | true => (match ev E s m with
        | .mref i => (match h i with
          | .dict false t' ks vs => (match Nat.beq t t' with
            | true => .ret (.ok .top [(i, .dict false t' (dictPut (E.ty kt) (ev E s k) (etaT (E.ty et) (ev E s x)) ks vs).1 (dictPut (E.ty kt) (ev E s k) (etaT (E.ty et) (ev E s x)) ks vs).2)])
            | false => .fail)
          | _ => .fail)
        | _ => .fail)
      | false => .fail)
    | _ => .fail)
  | .extract t n => (match ev E s t with
    | .tup vs => optTr vs[n]? fun v => .ret (.ok v [])
    | _ => .fail)
  | .call c => (match c.callee with
    | .builtin b => evBuiltin E h b c.argTypes (c.args.toList.map (ev E s))
    | .value f => (match ev E s f with
      | .clo f a b => evCall E h fr f (a ++ c.args.toList.map (ev E s) ++ b)
      | _ => .fail)
    | _ => .fail)
  | .panic x => (match ev E s x with
    | .iface t v => (match v.noRef with | true => .ret (.pan (.iface t v) []) | false => .fail)
    | _ => .fail)
  | _ => .fail

def putO (s : Nat → V) (d : Option Nat) (v : V) : Nat → V := match d with | some d => upd s d v | none => s

/-- Which operations an operation hangs on, by the edges that bind in every mode. -/
def predsGo (ops : List Oper) : Nat → List Nat → Nat → List Nat
  | 0, seen, _ => seen
  | n + 1, seen, k => match seen[k]? with
    | none => seen
    | some i => predsGo ops n (addNew seen (((ops[i]?).map fun o => (o.after.toList.filter (Region.binds .any)).map (·.on)).getD [])) (k + 1)
def preds (ops : List Oper) (i : Nat) : List Nat := (predsGo ops (ops.length + 1) [i] 0)
def maskOb (base : Nat) (p : List Nat) (h : Nat → Ob) : Nat → Ob := fun i => (match Nat.blt i base || p.contains ((i - base) / 64) with | true => h i | false => .dead)

def opReads (ops : List Oper) (o : Oper) : List Nat :=
  (o.op.operands.toList.filterMap fun x => match x with | .tmp t => some t | _ => none) ++ (match o.guard with | some (i, _) => ((ops[i]?).bind (·.dst)).toList | none => [])
/-- It may write what was there. -/
def loud (E : Env) (o : Oper) : Bool := match o.op with
  | .store .. | .mapUpdate .. => true
  | .call c => (match c.callee with | .builtin .len => false | .builtin .max => false | .builtin .min => false | .builtin _ => true | .value (.func f) => (E.mode f).any id | .value _ => true | _ => true)
  | _ => false
/-- It looks at no object. -/
def blind (o : Oper) : Bool := match o.op with
  | .move _ | .assign _ | .pick .. | .build .. | .binOp .. | .unOp .. | .makeFunc .. | .slice .. | .fieldAddr .. | .field .. | .indexAddr .. | .index .. | .extract .. | .alloc _ | .box .. | .buildSlice .. | .makeMap .. | .makeSlice .. => true
  | .call c => (match c.callee with | .builtin .len => true | .builtin .max => true | .builtin .min => true | _ => false)
  | _ => false
inductive Rg where
  | go (s : St) | pan (v : V) (s : St)
def maskSlot (l : List Nat) (s : Nat → V) : Nat → V := fun t => (match l.contains t with | true => s t | false => .top)
def viewOf (draw : Bool) (ops : List Oper) (base j : Nat) (o : Oper) (h : Nat → Ob) : Nat → Ob := match draw with
  | false => h
  | true => (match blind o with | true => fun _ => .dead | false => maskOb base (preds ops j) h)
def slotOf (draw : Bool) (ops : List Oper) (o : Oper) (s : Nat → V) : Nat → V := match draw with | false => s | true => maskSlot (opReads ops o) s
def ownU (fr : Nat) (u : Upd) : Bool := u.all fun p => Nat.ble fr p.1 && Nat.blt p.1 (fr + 64)
/-- What an operation may write, in a drawn order. -/
def okU (E : Env) (o : Oper) (fr : Nat) (view : Nat → Ob) (u : Upd) : Bool := ownU fr u || (loud E o && !blind o && u.all fun p => (Nat.ble fr p.1 && Nat.blt p.1 (fr + 64)) || (view p.1).alive)
def stepWith (E : Env) (draw : Bool) (ops : List Oper) (base j : Nat) (o : Oper) (s : St) : Tr Rg :=
  (evOp E (viewOf draw ops base j o s.ob) (slotOf draw ops o s.slot) (base + 64 * j) o).bind fun x => match x with
    | .ok v u => (match !draw || okU E o (base + 64 * j) (viewOf draw ops base j o s.ob) u with
      | true => .ret (.go { s with slot := putO s.slot o.dst v, ob := updL s.ob u })
      | false => .fail)
    | .pan v u => (match draw with | true => .fail | false => .ret (.pan v { s with ob := updL s.ob u }))
def stepOp (E : Env) (draw : Bool) (ops : List Oper) (base : Nat) (s : St) (j : Nat) : Tr Rg :=
  match ops[j]? with
  | none => .ret (.go s)
  | some o => match o.guard with
    | none => stepWith E draw ops base j o s
    | some (i, want) => match (ops[i]?).bind (·.dst) with
      | some d => (match s.slot d with
        | .bool b => .ite (match want with | true => b | false => !b)
            (stepWith E draw ops base j o { s with slot := upd s.slot d (.bool want) })
            (.ret (.go { s with slot := putO (upd s.slot d (.bool !want)) o.dst (.tup []) }))
        | .tup [] => .ret (.go { s with slot := putO s.slot o.dst (.tup []) })
        | _ => .fail)
      | none => .fail
def stepOps (E : Env) (draw : Bool) (ops : List Oper) (base : Nat) : List Nat → St → Tr Rg
  | [], s => .ret (.go s)
  | j :: r, s => (stepOp E draw ops base s j).bind fun x => match x with
    | .go s' => stepOps E draw ops base r s'
    | .pan v s' => .ret (.pan v s')

def indep (E : Env) (ops : List Oper) (a b : Oper) : Bool :=
  (match a.dst with | some d => !(opReads ops b).contains d && !(b.dst == some d) | none => true) &&
  (match b.dst with | some d => !(opReads ops a).contains d | none => true) &&
  ((!loud E a && !loud E b) || blind a || blind b)
def allPairs (p : Nat → Nat → Bool) (n : Nat) : Bool := (List.range n).all fun j => (List.range j).all fun i => p i j
def backward (ops : List Oper) : Bool := (List.range ops.length).all fun j => ((ops[j]?).map fun o => o.after.all fun e => Nat.blt e.on j).getD true
/-- The same for the edges that bind in every mode. -/
def backAny (ops : List Oper) : Bool := (List.range ops.length).all fun j => ((ops[j]?).map fun o => o.after.toList.all fun e => !Region.binds .any e || Nat.blt e.on j).getD true
def maxOn (m : Region.Mode) (r : List Nat) : List Edge → Nat
  | [] => 0
  | e :: l => (match Region.binds m e with | true => Nat.max (r.getD e.on 0 + 1) (maxOn m r l) | false => maxOn m r l)
def rankIter (m : Region.Mode) (ops : List Oper) : Nat → List Nat → List Nat
  | 0, r => r
  | n + 1, r => rankIter m ops n (ops.map fun o => maxOn m r o.after.toList)
/-- The operations can be put in an order that a mode's edges allow. -/
def rankedBy (m : Region.Mode) (ops : List Oper) (r : List Nat) : Bool := (List.range ops.length).all fun j => ((ops[j]?).map fun o => o.after.toList.all fun e => !Region.binds m e || (Nat.blt (r.getD e.on 0) (r.getD j 0) && Nat.blt e.on ops.length)).getD true
def ranked (m : Region.Mode) (ops : List Oper) : Bool := (rankedBy m ops (rankIter m ops 8 [])) || rankedBy m ops (rankIter m ops 24 [])
def orderOk (ops : List Oper) : Bool := backward ops || (backAny ops && ranked .text ops && ranked .gc ops)
def regionOk (E : Env) (ops : List Oper) : Bool :=
  orderOk ops && allPairs (fun i j => (preds ops j).contains i || (match ops[i]?, ops[j]? with | some a, some b => indep E ops a b | _, _ => false)) ops.length

/-- The state with what is kept alone, and named anew. -/
def canonIds (keep : List Nat) (m : Nat) (s : St) : List Nat := reach s.ob (List.range m ++ keep.flatMap fun k => (s.slot k).refs)
def canonV (keep : List Nat) (m : Nat) (s : St) : List V := keep.map fun k => reV s.ob (genC m) (canonIds keep m s) (s.slot k)
def canonO (keep : List Nat) (m : Nat) (s : St) : List Ob := reO s.ob (genC m) (canonIds keep m s)
def mkSt (keep : List Nat) (vs : List V) (os : List Ob) : St := ⟨ofList .top (keep.zip vs), hOf os, os.length⟩

def loopKey : Code → Nat
  | .region id _ _ => id
  | .seq a _ => loopKey a
  | .block _ b => loopKey b
  | .loop b => loopKey b
  | .scope b => loopKey b
  | .cond _ a _ => loopKey a
  | _ => 0

def exec (E : Env) (m : Nat) : Code → St → Tr (Ex × St)
  | .skip, s => .ret (.normal, s)
  | .region _ ops draw, s => (match draw && !regionOk E ops.toList with
    | true => .fail
    | false => (stepOps E draw ops.toList s.next (List.range ops.toList.length) s).bind fun x => match x with
      | .go s' => .ret (.normal, { s' with next := s.next + 64 * ops.toList.length })
      | .pan v s' => .ret (.panic v, { s' with next := s.next + 64 * ops.toList.length }))
  | .seq a b, s => (exec E m a s).bind fun x => match x.1 with
    | .normal => exec E m b x.2
    | e => .ret (e, x.2)
  | .cond c t e, s => (match ev E s.slot c with
    | .bool b => .ite b (exec E m t (match c with | .tmp d => { s with slot := upd s.slot d (.bool true) } | _ => s)) (exec E m e (match c with | .tmp d => { s with slot := upd s.slot d (.bool false) } | _ => s))
    | _ => .fail)
  | .block id b, s => (exec E m b s).bind fun x => match x.1 with
    | .exit i => (match Nat.beq i id with | true => .ret (.normal, x.2) | false => .ret (.exit i, x.2))
    | e => .ret (e, x.2)
  | .loop b, s => (E.L (loopKey b) (canonV (E.keep (loopKey b)) m s) (canonO (E.keep (loopKey b)) m s)).bind fun r => .ret (r.1, mkSt (E.keepX (loopKey b)) r.2.1 r.2.2)
  | .exit id, s => .ret (.exit id, s)
  | .label _, s => .ret (.normal, s)
  | .ret, s => .ret (.ret, s)
  | _, _ => .fail

def resOf (E : Env) (s : St) : ResultVar → Option V
  | .tmp t => some (s.slot t)
  | .cell t ty => match cellsAt E.ty s.ob (s.slot t) with
    | some cs => (match (E.ty ty).ok && Nat.ble (E.ty ty).size cs.length with | true => (match (E.ty ty).agg with | true => some (.agg (cs.take (E.ty ty).size)) | false => cs.head?) | false => none)
    | none => none
def allSome {α : Type} : List (Option α) → Option (List α)
  | [] => some []
  | some a :: r => (allSome r).map (a :: ·)
  | none :: _ => none

/-- A function's result: frozen (as trees), or with the objects that it refers to. -/
def exportIds (m : Nat) (s : St) (l : List Nat) : List Nat := reach s.ob (List.range m ++ l)
def leave (E : Env) (m : Nat) (own : Bool) (s : St) (v : V) : Tr Out := match own with
  | true => .ret (.ret (reV s.ob (genE m) (exportIds m s v.refs) v) (reO s.ob (genE m) (exportIds m s v.refs)))
  | false => (match apart s.ob (exportIds m s []) (reach s.ob v.refs) with
    | true => .ret (.ret (toTree E.ty s.ob treeFuel v) (reO s.ob (genE m) (exportIds m s [])))
    | false => .fail)
def leaveP (m : Nat) (s : St) (v : V) : Tr Out := .ret (.panic v (reO s.ob (genE m) (exportIds m s [])))
def finish (E : Env) (m : Nat) (own : Bool) (f : Func) (s : St) : Tr Out :=
  match allSome (f.results.toList.map (resOf E s)) with
  | some vs => leave E m own s (match vs with | [v] => v | vs => .tup vs)
  | none => .fail

def begin0 (args : List V) (objs : List Ob) : St := ⟨hOfV args, hOf objs, objs.length⟩
where hOfV : List V → Nat → V
  | [], _ => .top
  | v :: _, 0 => v
  | _ :: r, n + 1 => hOfV r n
def runF (E : Env) (own : Bool) (f : Func) (args : List V) (objs : List Ob) : Tr Out :=
  match f.body with
  | some c => (exec E objs.length c (begin0 args objs)).bind fun x => match x.1 with
    | .normal => finish E objs.length own f x.2
    | .ret => finish E objs.length own f x.2
    | .panic v => leaveP objs.length x.2 v
    | _ => .fail
  | none => .fail
/-- One round of a loop, and what comes behind it. -/
def loopStep (E : Env) (m : Nat) (key : Nat) (b : Code) (vs : List V) (os : List Ob) : Tr (Ex × List V × List Ob) :=
  (exec E m b (mkSt (E.keep key) vs os)).bind fun x => match x.1 with
    | .normal => .ret (.normal, canonV (E.keep key) m x.2, canonO (E.keep key) m x.2)
    | e => .ret (e, canonV (E.keepX key) m x.2, canonO (E.keepX key) m x.2)
end Go.AH
