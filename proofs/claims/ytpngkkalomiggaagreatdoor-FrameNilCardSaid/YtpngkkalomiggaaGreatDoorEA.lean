/- A part of the proof: AH, AHR, AHT, AHS, AHQs, AHO. -/
import Derived.WalkKit
set_option linter.all false
namespace Go.AH
open Go

/-- A result with open tests in front. -/
inductive Tr (α : Type) where
  | ret (a : α) | ite (b : Bool) (t e : Tr α) | fail
def Tr.eval {α : Type} : Tr α → Option α
  | .ret a => some a
  | .ite b t e => (match b with | true => t.eval | false => e.eval)
  | .fail => none
def Tr.bind {α β : Type} : Tr α → (α → Tr β) → Tr β
  | .ret a, f => f a
  | .ite b t e, f => .ite b (t.bind f) (e.bind f)
  | .fail, _ => .fail
def Tr.test {α : Type} (b : Bool) (t : Tr α) : Tr α := .ite b t .fail

inductive V where
  | top
  | bool (b : Bool) | int (k : IntKind) (n : Int) | str (s : List UInt8)
  | nilp | nilm | nilf | nili | nils
  | agg (cs : List V) | tup (vs : List V)
  | seq (t : TypeId) (vs : List V)
  | fix (t : TypeId) (vs : List V)
  | pref (cs : List V)
  | dict (t : TypeId) (ks vs : List V)
  | clo (f : FuncId) (first caps : List V)
  | iface (t : TypeId) (v : V)
  | box (i j : Nat) | full (t : TypeId) (i g n : Nat) | sub (t : TypeId) (i g o n : Nat) | elt (i g k j : Nat) | mref (i : Nat) | bsl (t : TypeId) (i n : Nat) | itr (i : Nat)
  deriving Inhabited

def V.cells : V → List V
  | .agg cs => cs
  | v => [v]
def V.toB : V → Bool | .bool b => b | _ => false
def V.toI : V → Int | .int _ n => n | _ => 0
def V.toS : V → List UInt8 | .str s => s | _ => []
def V.toL : V → List V | .seq _ vs => vs | _ => []
def V.cell (v : V) (j : Nat) : V := v.cells.getD j .top

/-- What a cell holds. -/
inductive Kd where
  | bool | int (k : IntKind) | str | seq (e : TypeId) | ptr | map | func | iface | oth
  deriving DecidableEq, Inhabited
def Kd.isSeq : Kd → Bool | .seq _ => true | _ => false
inductive TD where
  | other | struct (fs : List (Nat × Nat × Bool)) | slice (e : TypeId) | array (n : Nat) (e : TypeId) | map (k e : TypeId) | ptr (e : TypeId) | str | int (k : IntKind) | bool | func | iface
  deriving DecidableEq, Inhabited
structure Ty where
  size : Nat
  agg : Bool
  bytes : Nat
  kinds : List Kd
  d : TD
  eq : Bool
  deriving DecidableEq, Inhabited
def tyNone : Ty := ⟨0, false, 0, [], .other, false⟩
/-- A row of the table that is one of the program's. -/
def Ty.ok (T : Ty) : Bool := match T.d with | .other => false | _ => true

def eta : Kd → V → V
  | .bool, v => .bool v.toB
  | .int k, v => .int k v.toI
  | .str, v => .str v.toS
  | .seq e, v => .seq e v.toL
  | _, v => v
def etaL : List Kd → Nat → V → List V
  | [], _, _ => []
  | k :: ks, j, v => eta k (v.cell j) :: etaL ks (j + 1) v
def etaT (T : Ty) (v : V) : V := match T.agg with
  | true => .agg (etaL T.kinds 0 v)
  | false => match T.kinds with
    | [k] => eta k v
    | _ => v
def isForm : Kd → V → Bool
  | .bool, .bool _ => true
  | .int k, .int k' _ => decide (k = k')
  | .str, .str _ => true
  | .seq e, .seq e' vs => Nat.beq e e' || vs.isEmpty
  | .seq _, .nils => true
  | .ptr, v => (match v with | .nilp | .pref _ => true | _ => false)
  | .map, v => (match v with | .nilm | .dict .. => true | _ => false)
  | .func, v => (match v with | .nilf | .clo .. => true | _ => false)
  | .iface, v => (match v with | .nili | .iface .. => true | _ => false)
  | _, _ => false
def isFormL : List Kd → List V → Bool
  | [], [] => true
  | k :: ks, v :: vs => isForm k v && isFormL ks vs
  | _, _ => false
def isFormT (T : Ty) (v : V) : Bool := match T.agg with
  | true => (match v with | .agg cs => isFormL T.kinds cs | _ => false)
  | false => match T.kinds with
    | [k] => isForm k v
    | _ => false
def zeroK : Kd → V
  | .bool => .bool false | .int k => .int k 0 | .str => .str [] | .seq e => .seq e [] | .ptr => .nilp | .map => .nilm | .func => .nilf | .iface => .nili | .oth => .top
def zeroT (T : Ty) : V := match T.agg with
  | true => .agg (T.kinds.map zeroK)
  | false => match T.kinds with
    | [k] => zeroK k
    | _ => .top
/-- The same for memory that is new: a slice there is nil. -/
def zeroKB : Kd → V
  | .seq _ => .nils
  | k => zeroK k
def zeroB (T : Ty) : V := match T.agg with
  | true => .agg (T.kinds.map zeroKB)
  | false => match T.kinds with
    | [k] => zeroKB k
    | _ => .top
def pack (a : Bool) (cs : List V) : V := match a with
  | true => .agg cs
  | false => cs.headD .top

inductive Ob where
  | dead
  | box (ro : Bool) (cs : List V)
  | row (ro : Bool) (g : Nat) (t : TypeId) (vs : List V)
  | dict (ro : Bool) (t : TypeId) (ks vs : List V)
  | sit (ro : Bool) (s : List UInt8) (k : Nat)
  deriving Inhabited

structure St where
  slot : Nat → V
  ob : Nat → Ob
  next : Nat

inductive Out where
  | ret (v : V) (objs : List Ob)
  | panic (v : V) (objs : List Ob)

inductive Ex where
  | normal | exit (id : Nat) | goto (l : Nat) | ret | panic (v : V)

structure Env where
  ty : TypeId → Ty
  C : FuncId → List V → List Ob → Tr Out
  L : Nat → Nat → List V → List Ob → Tr (Ex × List V × List Ob)
  mode : FuncId → List Bool
  glob : Nat → V
  keep : Nat → List Nat
  keepX : Nat → List Nat
  it : FuncId → List V → Option (List V) := fun _ _ => none
  dyn : Nat → Bool := fun _ => false

def upd {α : Type} (f : Nat → α) (i : Nat) (x : α) : Nat → α := fun j => (match Nat.beq j i with | true => x | false => f j)
def updL {α : Type} (f : Nat → α) : List (Nat × α) → Nat → α
  | [] => f
  | (i, x) :: r => updL (upd f i x) r

/- References. -/
mutual
def V.mapRef (φ : V → V) : V → V
  | .agg cs => .agg (V.mapRefs φ cs)
  | .tup cs => .tup (V.mapRefs φ cs)
  | .clo f a b => .clo f (V.mapRefs φ a) (V.mapRefs φ b)
  | .iface t v => .iface t (v.mapRef φ)
  | .box i j => φ (.box i j)
  | .full t i g n => φ (.full t i g n)
  | .sub t i g o n => φ (.sub t i g o n)
  | .elt i g k j => φ (.elt i g k j)
  | .mref i => φ (.mref i)
  | .bsl t i n => φ (.bsl t i n)
  | .itr i => φ (.itr i)
  | v => v
def V.mapRefs (φ : V → V) : List V → List V
  | [] => []
  | v :: vs => v.mapRef φ :: V.mapRefs φ vs
end
mutual
def V.refs : V → List Nat
  | .agg cs => V.refsL cs
  | .tup cs => V.refsL cs
  | .clo _ a b => V.refsL a ++ V.refsL b
  | .iface _ v => v.refs
  | .box i _ => [i] | .full _ i _ _ => [i] | .sub _ i _ _ _ => [i] | .elt i _ _ _ => [i] | .mref i => [i] | .bsl _ i _ => [i] | .itr i => [i]
  | _ => []
def V.refsL : List V → List Nat
  | [] => []
  | v :: vs => v.refs ++ V.refsL vs
end
def V.noRef (v : V) : Bool := v.refs.isEmpty
mutual
/-- No memory is seen through the value (but through its references). -/
def V.flat : V → Bool
  | .top => false
  | .agg cs => V.flatL cs
  | .tup cs => V.flatL cs
  | .clo _ a b => V.flatL a && V.flatL b
  | .iface _ v => v.flat
  | .seq _ _ => false
  | .fix _ _ => false
  | .pref _ => false
  | .dict .. => false
  | _ => true
def V.flatL : List V → Bool
  | [] => true
  | v :: vs => v.flat && V.flatL vs
end
/- The same by the recursors, for the kernel's sake. -/
noncomputable def V.refsF (v : V) : List Nat := V.rec (motive_1 := fun _ => List Nat) (motive_2 := fun _ => List Nat) [] (fun _ => []) (fun _ _ => []) (fun _ => []) [] [] [] [] [] (fun _ b => b) (fun _ b => b) (fun _ _ _ => []) (fun _ _ _ => []) (fun _ _ => []) (fun _ _ _ _ _ => []) (fun _ _ _ a b => a ++ b) (fun _ _ b => b) (fun i _ => [i]) (fun _ i _ _ => [i]) (fun _ i _ _ _ => [i]) (fun i _ _ _ => [i]) (fun i => [i]) (fun _ i _ => [i]) (fun i => [i]) [] (fun _ _ a b => a ++ b) v
noncomputable def V.refsLF (l : List V) : List Nat := V.rec_1 (motive_1 := fun _ => List Nat) (motive_2 := fun _ => List Nat) [] (fun _ => []) (fun _ _ => []) (fun _ => []) [] [] [] [] [] (fun _ b => b) (fun _ b => b) (fun _ _ _ => []) (fun _ _ _ => []) (fun _ _ => []) (fun _ _ _ _ _ => []) (fun _ _ _ a b => a ++ b) (fun _ _ b => b) (fun i _ => [i]) (fun _ i _ _ => [i]) (fun _ i _ _ _ => [i]) (fun i _ _ _ => [i]) (fun i => [i]) (fun _ i _ => [i]) (fun i => [i]) [] (fun _ _ a b => a ++ b) l
noncomputable def V.mapRefF (φ : V → V) (v : V) : V := V.rec (motive_1 := fun _ => V) (motive_2 := fun _ => List V) .top (fun b => .bool b) (fun k n => .int k n) (fun s => .str s) .nilp .nilm .nilf .nili .nils (fun _ b => .agg b) (fun _ b => .tup b) (fun t vs _ => .seq t vs) (fun t vs _ => .fix t vs) (fun cs _ => .pref cs) (fun t ks vs _ _ => .dict t ks vs) (fun f _ _ a b => .clo f a b) (fun t _ b => .iface t b) (fun i j => φ (.box i j)) (fun t i g n => φ (.full t i g n)) (fun t i g o n => φ (.sub t i g o n)) (fun i g k j => φ (.elt i g k j)) (fun i => φ (.mref i)) (fun t i n => φ (.bsl t i n)) (fun i => φ (.itr i)) [] (fun _ _ a b => a :: b) v
noncomputable def V.mapRefsF (φ : V → V) (l : List V) : List V := V.rec_1 (motive_1 := fun _ => V) (motive_2 := fun _ => List V) .top (fun b => .bool b) (fun k n => .int k n) (fun s => .str s) .nilp .nilm .nilf .nili .nils (fun _ b => .agg b) (fun _ b => .tup b) (fun t vs _ => .seq t vs) (fun t vs _ => .fix t vs) (fun cs _ => .pref cs) (fun t ks vs _ _ => .dict t ks vs) (fun f _ _ a b => .clo f a b) (fun t _ b => .iface t b) (fun i j => φ (.box i j)) (fun t i g n => φ (.full t i g n)) (fun t i g o n => φ (.sub t i g o n)) (fun i g k j => φ (.elt i g k j)) (fun i => φ (.mref i)) (fun t i n => φ (.bsl t i n)) (fun i => φ (.itr i)) [] (fun _ _ a b => a :: b) l
noncomputable def V.flatF (v : V) : Bool := V.rec (motive_1 := fun _ => Bool) (motive_2 := fun _ => Bool) false (fun _ => true) (fun _ _ => true) (fun _ => true) true true true true true (fun _ b => b) (fun _ b => b) (fun _ _ _ => false) (fun _ _ _ => false) (fun _ _ => false) (fun _ _ _ _ _ => false) (fun _ _ _ a b => a && b) (fun _ _ b => b) (fun _ _ => true) (fun _ _ _ _ => true) (fun _ _ _ _ _ => true) (fun _ _ _ _ => true) (fun _ => true) (fun _ _ _ => true) (fun _ => true) true (fun _ _ a b => a && b) v
noncomputable def V.flatLF (l : List V) : Bool := V.rec_1 (motive_1 := fun _ => Bool) (motive_2 := fun _ => Bool) false (fun _ => true) (fun _ _ => true) (fun _ => true) true true true true true (fun _ b => b) (fun _ b => b) (fun _ _ _ => false) (fun _ _ _ => false) (fun _ _ => false) (fun _ _ _ _ _ => false) (fun _ _ _ a b => a && b) (fun _ _ b => b) (fun _ _ => true) (fun _ _ _ _ => true) (fun _ _ _ _ _ => true) (fun _ _ _ _ => true) (fun _ => true) (fun _ _ _ => true) (fun _ => true) true (fun _ _ a b => a && b) l
mutual
@[simp] theorem V.refsF_eq : ∀ v : V, v.refsF = v.refs
  | .agg cs => V.refsLF_eq cs
  | .tup cs => V.refsLF_eq cs
  | .clo _ a b => (congrArg (· ++ V.refsLF b) (V.refsLF_eq a)).trans (congrArg (V.refsL a ++ ·) (V.refsLF_eq b))
  | .iface _ v => V.refsF_eq v
  | .top => rfl | .bool _ => rfl | .int _ _ => rfl | .str _ => rfl | .nilp => rfl | .nilm => rfl | .nilf => rfl | .nili => rfl | .nils => rfl
  | .seq _ _ => rfl | .fix _ _ => rfl | .pref _ => rfl | .dict _ _ _ => rfl
  | .box _ _ => rfl | .full _ _ _ _ => rfl | .sub _ _ _ _ _ => rfl | .elt _ _ _ _ => rfl | .mref _ => rfl | .bsl _ _ _ => rfl | .itr _ => rfl
@[simp] theorem V.refsLF_eq : ∀ l : List V, V.refsLF l = V.refsL l
  | [] => rfl
  | v :: r => (congrArg (· ++ V.refsLF r) (V.refsF_eq v)).trans (congrArg (v.refs ++ ·) (V.refsLF_eq r))
end
mutual
@[simp] theorem V.mapRefF_eq (φ : V → V) : ∀ v : V, v.mapRefF φ = v.mapRef φ
  | .agg cs => congrArg V.agg (V.mapRefsF_eq φ cs)
  | .tup cs => congrArg V.tup (V.mapRefsF_eq φ cs)
  | .clo f a b => (congrArg (fun x => V.clo f x (V.mapRefsF φ b)) (V.mapRefsF_eq φ a)).trans (congrArg (V.clo f (V.mapRefs φ a)) (V.mapRefsF_eq φ b))
  | .iface t v => congrArg (V.iface t) (V.mapRefF_eq φ v)
  | .top => rfl | .bool _ => rfl | .int _ _ => rfl | .str _ => rfl | .nilp => rfl | .nilm => rfl | .nilf => rfl | .nili => rfl | .nils => rfl
  | .seq _ _ => rfl | .fix _ _ => rfl | .pref _ => rfl | .dict _ _ _ => rfl
  | .box _ _ => rfl | .full _ _ _ _ => rfl | .sub _ _ _ _ _ => rfl | .elt _ _ _ _ => rfl | .mref _ => rfl | .bsl _ _ _ => rfl | .itr _ => rfl
@[simp] theorem V.mapRefsF_eq (φ : V → V) : ∀ l : List V, V.mapRefsF φ l = V.mapRefs φ l
  | [] => rfl
  | v :: r => (congrArg (· :: V.mapRefsF φ r) (V.mapRefF_eq φ v)).trans (congrArg (v.mapRef φ :: ·) (V.mapRefsF_eq φ r))
end
mutual
@[simp] theorem V.flatF_eq : ∀ v : V, v.flatF = v.flat
  | .agg cs => V.flatLF_eq cs
  | .tup cs => V.flatLF_eq cs
  | .clo _ a b => (congrArg (· && V.flatLF b) (V.flatLF_eq a)).trans (congrArg (V.flatL a && ·) (V.flatLF_eq b))
  | .iface _ v => V.flatF_eq v
  | .top => rfl | .bool _ => rfl | .int _ _ => rfl | .str _ => rfl | .nilp => rfl | .nilm => rfl | .nilf => rfl | .nili => rfl | .nils => rfl
  | .seq _ _ => rfl | .fix _ _ => rfl | .pref _ => rfl | .dict _ _ _ => rfl
  | .box _ _ => rfl | .full _ _ _ _ => rfl | .sub _ _ _ _ _ => rfl | .elt _ _ _ _ => rfl | .mref _ => rfl | .bsl _ _ _ => rfl | .itr _ => rfl
@[simp] theorem V.flatLF_eq : ∀ l : List V, V.flatLF l = V.flatL l
  | [] => rfl
  | v :: r => (congrArg (· && V.flatLF r) (V.flatF_eq v)).trans (congrArg (v.flat && ·) (V.flatLF_eq r))
end
def Kd.plain : Kd → Bool | .bool => true | .int _ => true | .str => true | _ => false
noncomputable def Ob.refs : Ob → List Nat
  | .box _ cs => V.refsLF cs
  | _ => []
noncomputable def Ob.flatIn (T : TypeId → Ty) : Ob → Bool
  | .box _ cs => V.flatLF cs
  | .row _ _ t _ => (T t).kinds.all Kd.plain
  | .dict _ t _ _ => (match (T t).d with | .map k e => (T k).kinds.all Kd.plain && (T e).kinds.all Kd.plain | _ => false)
  | .sit .. => true
  | .dead => true
def addNew (seen : List Nat) : List Nat → List Nat
  | [] => seen
  | i :: r => (match seen.contains i with | true => addNew seen r | false => addNew (seen ++ [i]) r)
noncomputable def reachGo (h : Nat → Ob) : Nat → List Nat → Nat → List Nat
  | 0, seen, _ => seen
  | n + 1, seen, k => match seen[k]? with
    | none => seen
    | some i => reachGo h n (addNew seen (h i).refs) (k + 1)
noncomputable def reach (h : Nat → Ob) (start : List Nat) : List Nat := reachGo h 64 (addNew [] start) 0
def pos (p : List Nat) (i : Nat) : Option Nat := match p with
  | [] => none
  | j :: r => (match Nat.beq i j with | true => some 0 | false => (pos r i).map (· + 1))
/-- References renamed: the object by 'f', the generation by 'γ' (of the object, and of the reference). -/
def renRef (f : Nat → Option Nat) (γ : Nat → Nat → Option Nat) (v : V) : V := match v with
  | .box i j => (match f i with | some k => .box k j | none => .top)
  | .full t i g n => (match f i, γ i g with | some k, some g' => .full t k g' n | _, _ => .top)
  | .sub t i g o n => (match f i, γ i g with | some k, some g' => .sub t k g' o n | _, _ => .top)
  | .elt i g a j => (match f i, γ i g with | some k, some g' => .elt k g' a j | _, _ => .top)
  | .mref i => (match f i with | some k => .mref k | none => .top)
  | .bsl t i n => (match f i with | some k => .bsl t k n | none => .top)
  | .itr i => (match f i with | some k => .itr k | none => .top)
  | v => v
/-- What becomes of the generations: of references that are up to date alone. -/
def genAt (h : Nat → Ob) (δ : Nat → Nat → Nat) (i g : Nat) : Option Nat := match h i with
  | .row _ g' _ _ => (match Nat.beq g g' with | true => some (δ i g') | false => none)
  | _ => none
noncomputable def Ob.ren (φ : V → V) (g : Nat → Nat) : Ob → Ob
  | .box ro cs => .box ro (V.mapRefsF φ cs)
  | .row ro g' t vs => .row ro (g g') t vs
  | .dict ro t ks vs => .dict ro t ks vs
  | .sit ro s k => .sit ro s k
  | .dead => .dead

/-- The heap named anew: object k is what was object ids[k]. -/
noncomputable def reV (h : Nat → Ob) (δ : Nat → Nat → Nat) (ids : List Nat) (v : V) : V := v.mapRefF (renRef (pos ids) (genAt h δ))
noncomputable def reO (h : Nat → Ob) (δ : Nat → Nat → Nat) (ids : List Nat) : List Ob := ids.map fun i => (h i).ren (renRef (pos ids) (genAt h δ)) (δ i)
def gen0 : Nat → Nat → Nat := fun _ _ => 0
def genC (m : Nat) : Nat → Nat → Nat := fun i g => (match Nat.blt i m with | true => min g 1 | false => 0)
def genE (m : Nat) : Nat → Nat → Nat := fun i g => (match Nat.blt i m with | true => g | false => 0)
def ofList {α : Type} (d : α) : List (Nat × α) → Nat → α
  | [], _ => d
  | (i, x) :: r, j => (match Nat.beq j i with | true => x | false => ofList d r j)
def hOf : List Ob → Nat → Ob
  | [], _ => .dead
  | o :: _, 0 => o
  | _ :: r, n + 1 => hOf r n

/-- The elements of a slice that is laid cell by cell. -/
def chunksV (ty : Ty) : Nat → List V → List V
  | 0, _ => []
  | m + 1, cs => pack ty.agg (cs.take ty.size) :: chunksV ty m (cs.drop ty.size)
def bslTree (T : TypeId → Ty) (t : TypeId) (m : Nat) (cs : List V) : V := match (T t).ok && Nat.beq cs.length (m * (T t).size) && (chunksV (T t) m cs).all (isFormT (T t)) with
  | true => .seq t ((chunksV (T t) m cs).map (etaT (T t)))
  | false => .top
/-- A value as it is read, without references. -/
noncomputable def toTree (T : TypeId → Ty) (h : Nat → Ob) : Nat → V → V
  | 0, _ => .top
  | n + 1, v => v.mapRefF fun r => match r with
    | .full _ i g _ => (match h i with | .row _ g' t vs => (match Nat.beq g g' with | true => .seq t vs | false => .top) | _ => .top)
    | .sub _ i g o m => (match h i with | .row _ g' t vs => (match Nat.beq g g' with | true => .seq t ((vs.drop o).take m) | false => .top) | _ => .top)
    | .elt i g k j => (match h i with | .row _ g' t vs => (match Nat.beq g g' with | true => .pref ((etaT (T t) (vs.getD k .top)).cells.drop j) | false => .top) | _ => .top)
    | .box i j => (match h i with | .box _ cs => .pref ((cs.drop j).map (toTree T h n)) | _ => .top)
    | .mref i => (match h i with | .dict _ t ks vs => .dict t ks vs | _ => .top)
    | .bsl t i m => (match h i with | .box _ cs => bslTree T t m (cs.map (toTree T h n)) | _ => .top)
    | _ => .top
def treeFuel : Nat := 8

def Ob.setRo : Ob → Ob
  | .box _ cs => .box true cs
  | .row _ g t vs => .row true g t vs
  | .dict _ t ks vs => .dict true t ks vs
  | .sit _ s k => .sit true s k
  | .dead => .dead
def Ob.gen : Ob → Nat | .row _ g _ _ => g | _ => 0

def ofConst : Value → V
  | .bool b => .bool b
  | .int k n => .int k n
  | .string s => .str s.data.toList
  | .slice none 0 0 => .seq 0 []
  | .pointer none => .nilp
  | .map none => .nilm
  | .nilFunc => .nilf
  | .nilIface => .nili
  | .agg cs => .agg (cs.toList.map one)
  | _ => .top
where one : Value → V
  | .bool b => .bool b
  | .int k n => .int k n
  | .string s => .str s.data.toList
  | .slice none 0 0 => .seq 0 []
  | .pointer none => .nilp
  | .map none => .nilm
  | .nilFunc => .nilf
  | .nilIface => .nili
  | _ => .top
def ev (E : Env) (s : Nat → V) : Operand → V
  | .tmp t => s t
  | .const v => ofConst v
  | .func f => .clo f [] []
  | .global g => E.glob g

/-- A bound that may be left out. -/
def loI (E : Env) (s : Nat → V) (x : Option Operand) (d : Int) : Option Int := match x with
  | some l => (match ev E s l with | .int _ n => some n | _ => none)
  | none => some d
/-- The elements of a slice: its type, and what it holds. -/
def els (h : Nat → Ob) : V → Option (TypeId × List V)
  | .seq t vs => some (t, vs)
  | .fix t vs => some (t, vs)
  | .nils => some (0, [])
  | .full _ i g _ => (match h i with | .row _ g' t vs => (match Nat.beq g g' with | true => some (t, vs) | false => none) | _ => none)
  | .sub _ i g o m => (match h i with | .row _ g' t vs => (match Nat.beq g g' with | true => some (t, (vs.drop o).take m) | false => none) | _ => none)
  | _ => none
/-- The cells from a pointer on. -/
def cellsAt (T : TypeId → Ty) (h : Nat → Ob) : V → Option (List V)
  | .pref cs => some cs
  | .box i j => (match h i with | .box _ cs => some (cs.drop j) | _ => none)
  | .elt i g k j => (match h i with | .row _ g' t vs => (match Nat.beq g g' with | true => some ((etaT (T t) (vs.getD k .top)).cells.drop j) | false => none) | _ => none)
  | _ => none
def lenV : V → Option Nat
  | .seq _ vs => some vs.length
  | .fix _ vs => some vs.length
  | .nils => some 0
  | .full _ _ _ n => some n
  | .sub _ _ _ _ n => some n
  | .bsl _ _ n => some n
  | _ => none

def eqV : V → V → Option Bool
  | .bool a, .bool b => some (a == b)
  | .int j a, .int k b => (match decide (j = k) with | true => some (a == b) | false => none)
  | .str a, .str b => some (a == b)
  | _, _ => none
def eqP : V → V → Option Bool
  | .nilp, .nilp => some true
  | .nilp, .pref _ => some false | .nilp, .box .. => some false | .nilp, .elt .. => some false
  | .pref _, .nilp => some false | .box .., .nilp => some false | .elt .., .nilp => some false
  | _, _ => none
def eqF : V → V → Option Bool
  | .nilf, .nilf => some true
  | .nilf, .clo .. => some false | .clo .., .nilf => some false
  | _, _ => none
def eqM : V → V → Option Bool
  | .nilm, .nilm => some true
  | .nilm, .dict .. => some false | .nilm, .mref _ => some false
  | .dict .., .nilm => some false | .mref _, .nilm => some false
  | _, _ => none
def eqCells : List V → List V → Option Bool
  | [], [] => some true
  | a :: as, b :: bs => match eqV a b, eqCells as bs with
    | some x, some y => some (x && y)
    | _, _ => none
  | _, _ => none
/-- '==' at a type. -/
def eqT (T : Ty) (a b : V) : Option Bool := match a, b with
  | .agg xs, .agg ys => (match T.d with
    | .struct _ => (match T.eq && isFormL T.kinds xs && isFormL T.kinds ys with
      | true => eqCells xs ys | false => none)
    | _ => none)
  | .bool a, .bool b => (match T.d with | .bool => some (a == b) | _ => none)
  | a, b => (match T.d with | .ptr _ => eqP a b | .func => eqF a b | .map _ _ => eqM a b | _ => none)

/-- Keys are compared as what their type says that they are. -/
def keySame (T : Ty) (a b : V) : Bool := match T.agg with
  | true => (eqCells (etaL T.kinds 0 a) (etaL T.kinds 0 b)).getD false
  | false => match T.kinds with
    | [k] => (eqV (eta k a) (eta k b)).getD false
    | _ => false
def dictFind (T : Ty) (k : V) : List V → List V → Option V
  | x :: xs, y :: ys => (match keySame T k x with | true => some y | false => dictFind T k xs ys)
  | _, _ => none
def dictPut (T : Ty) (k v : V) : List V → List V → List V × List V
  | x :: xs, y :: ys => (match keySame T k x with | true => (k :: xs, v :: ys) | false => let r := dictPut T k v xs ys; (x :: r.1, y :: r.2))
  | _, _ => ([k], [v])
def plainKey (T : Ty) : Bool := T.kinds.all Kd.plain && (match T.agg with | true => T.eq | false => (match T.d with | .str => true | .int _ => true | .bool => true | _ => false))

def bitsV (op : BinOp) (k : IntKind) (x y : Int) : Option Int :=
  match op with
  | .and => some (k.wrap (BitVec.ofInt k.bits x &&& BitVec.ofInt k.bits y).toNat)
  | .or => some (k.wrap (BitVec.ofInt k.bits x ||| BitVec.ofInt k.bits y).toNat)
  | .xor => some (k.wrap (BitVec.ofInt k.bits x ^^^ BitVec.ofInt k.bits y).toNat)
  | .andNot => some (k.wrap (BitVec.ofInt k.bits x &&& ~~~BitVec.ofInt k.bits y).toNat)
  | _ => none

def binInt (op : BinOp) (k : IntKind) (x y : Int) : Tr V :=
  match op with
  | .add => .ret (.int k (k.wrap (x + y)))
  | .sub => .ret (.int k (k.wrap (x - y)))
  | .mul => .ret (.int k (k.wrap (x * y)))
  | .quo => .test (decide (y ≠ 0)) (.ret (.int k (k.wrap (x.tdiv y))))
  | .rem => .test (decide (y ≠ 0)) (.ret (.int k (x.tmod y)))
  | .eql => .ret (.bool (x == y))
  | .neq => .ret (.bool (x != y))
  | .lss => .ret (.bool (decide (x < y)))
  | .leq => .ret (.bool (decide (x ≤ y)))
  | .gtr => .ret (.bool (decide (x > y)))
  | .geq => .ret (.bool (decide (x ≥ y)))
  | op => match bitsV op k x y with
    | some z => .ret (.int k z)
    | none => .fail
def lim : Nat := 4294967296
def binV (T : Ty) (op : BinOp) (a b : V) : Tr V :=
  match a, b with
  | .int k x, .int k' y => (match op with
    | .shl => .test (decide (0 ≤ y)) (.ret (.int k (k.wrap (x * 2 ^ (min y.toNat k.bits)))))
    | .shr => .test (decide (0 ≤ y)) (.ret (.int k (x.fdiv (2 ^ (min y.toNat k.bits)))))
    | op => (match decide (k = k') with | true => binInt op k x y | false => .fail))
  | .str x, .str y => (match op with
    | .add => .test (decide (x.length + y.length ≤ lim)) (.ret (.str (x ++ y)))
    | .eql => .ret (.bool (x == y))
    | .neq => .ret (.bool !(x == y))
    | .lss => .ret (.bool (Op.bytesLess x y))
    | .gtr => .ret (.bool !(Op.bytesLess x y || x == y))
    | .leq => .ret (.bool (Op.bytesLess x y || x == y))
    | .geq => .ret (.bool !(Op.bytesLess x y))
    | _ => .fail)
  | x, y => (match op with
    | .eql => (match eqT T x y with | some r => .ret (.bool r) | none => .fail)
    | .neq => (match eqT T x y with | some r => .ret (.bool !r) | none => .fail)
    | _ => .fail)

def bytesOf : List V → List UInt8
  | [] => []
  | v :: r => UInt8.ofNat v.toI.toNat :: bytesOf r

abbrev Upd := List (Nat × Ob)
/-- What an operation comes to: a value, or a panic; and what has changed. -/
inductive Rs where
  | ok (v : V) (u : Upd) | pan (v : V) (u : Upd)

def newRow (fr : Nat) (t : TypeId) (vs : List V) : Tr Rs := .ret (.ok (.full t fr 0 vs.length) [(fr, .row false 0 t vs)])
def fillRow (T : Ty) (part : Operand → V) : List (Nat × Operand) → List V → Option (List V)
  | [], vs => some vs
  | (i, x) :: r, vs => (match isFormT T (part x) && (part x).noRef with
    | true => (match Nat.blt i vs.length with | true => fillRow T part r (vs.set i (etaT T (part x))) | false => none)
    | false => none)
def V.storable : V → Bool | .top => false | .tup _ => false | .agg _ => false | _ => true
def V.cellsOk : V → Bool | .agg _ => true | v => v.storable
def fillAgg (fs : List (Nat × Nat × Bool)) (part : Operand → V) : List (Nat × Operand) → List V → Option (List V)
  | [], cs => some cs
  | (i, x) :: r, cs => match fs[i]? with
    | some (off, n, _) => (match (part x).cellsOk && Nat.beq (part x).cells.length n && Nat.ble (off + n) cs.length with
      | true => fillAgg fs part r (cs.take off ++ (part x).cells ++ cs.drop (off + n))
      | false => none)
    | none => none

def appendV (h : Nat → Ob) (fr : Nat) (t : TypeId) (a : V) (news : List V) : Tr Rs :=
  match a with
  | .nils => .test (decide (0 + news.length ≤ lim)) (.ret (.ok (.full t fr 1 news.length) [(fr, .row false 1 t news)]))
  | .fix t' vs => (match (Nat.beq t t' || vs.isEmpty) && Nat.blt 0 news.length with
    | true => .test (decide (vs.length + news.length ≤ lim)) (.ret (.ok (.full t fr 1 (vs ++ news).length) [(fr, .row false 1 t (vs ++ news))]))
    | false => .fail)
  | .full _ i g _ => (match h i with
    | .row false g' t' vs => (match Nat.beq g g' && Nat.beq t t' with
      | true => .test (decide (vs.length + news.length ≤ lim)) (.ret (.ok (.full t i (g + 1) (vs ++ news).length) [(i, .row false (g + 1) t' (vs ++ news))]))
      | false => .fail)
    | _ => .fail)
  | .sub _ i g o m => (match h i with
    | .row false g' t' vs => (match Nat.beq g g' && Nat.beq t t' with
      | false => .fail
      | true => match Nat.beq o 0 with
      | false => (match Nat.blt 0 news.length with
        | true => .test (decide (m + news.length ≤ lim)) (.ret (.ok (.full t i (g + 2) (((vs.drop o).take m) ++ news).length) [(i, .row false (g + 2) t' (((vs.drop o).take m) ++ news))]))
        | false => .fail)
      | true => .test (decide (m + news.length ≤ lim) && decide (0 < vs.length)) (.ret (.ok (.full t i (g + 1) (((vs.drop o).take m) ++ news).length) [(i, .row false (g + 1) t' (((vs.drop o).take m) ++ news))])))
    | _ => .fail)
  | _ => .fail

noncomputable def evBuiltin (E : Env) (h : Nat → Ob) (fr : Nat) (b : Builtin) (ts : Array TypeId) (args : List V) : Tr Rs :=
  match b, args with
  | .len, [v] => (match ts.toList with
    | [t] => (match (E.ty t).d, v with
      | .str, .str x => .ret (.ok (.int .i64 x.length) [])
      | .slice _, v => (match lenV v with | some n => .ret (.ok (.int .i64 n) []) | none => .fail)
      | _, _ => .fail)
    | _ => .fail)
  | .append, [a, b] => (match ts.toList with
    | [t, t'] => (match Nat.beq t t' with | false => .fail | true => match (E.ty t).d with
      | .slice e => (match (E.ty e).ok with | false => .fail | true => (match els h b with
        | some (e', new) => (match Nat.beq e e' || new.isEmpty with | true => appendV h fr e a new | false => .fail)
        | none => .fail))
      | _ => .fail)
    | _ => .fail)
  | .max, [.int k x, .int k' y] => (match decide (k = k') with | true => .ret (.ok (.int k (match decide (y > x) with | true => y | false => x)) []) | false => .fail)
  | .min, [.int k x, .int k' y] => (match decide (k = k') with | true => .ret (.ok (.int k (match decide (y < x) with | true => y | false => x)) []) | false => .fail)
  | _, _ => .fail

def split (byref : List Bool) : List V → List V × List V
  | [] => ([], [])
  | v :: r => let x := split byref.tail r; (match byref.headD false with | true => (v :: x.1, x.2) | false => (x.1, v :: x.2))
noncomputable def passArgs (T : TypeId → Ty) (h : Nat → Ob) (φ : V → V) (byref : List Bool) : List V → List V
  | [] => []
  | v :: r => (match byref.headD false with | true => φ v | false => toTree T h treeFuel v) :: passArgs T h φ byref.tail r
def Ob.alive : Ob → Bool | .dead => false | _ => true
def Ob.rw : Ob → Bool | .box ro _ => !ro | .row ro _ _ _ => !ro | .dict ro _ _ _ => !ro | .sit ro _ _ => !ro | .dead => false
/-- What is seen as a tree, with all that it leads to, is no part of what is passed. -/
noncomputable def apart (h : Nat → Ob) (ids bor : List Nat) : Bool := ids.all (fun i => (h i).alive) && bor.all fun i => (h i).alive && !ids.contains i && (h i).refs.all bor.contains
def backId (ids : List Nat) (fr : Nat) (k : Nat) : Nat := match ids[k]? with | some i => i | none => fr + (k - ids.length)
def backGen (h : Nat → Ob) (ids : List Nat) (k : Nat) : Nat := match ids[k]? with | some c => (h c).gen | none => 0
noncomputable def backV (h : Nat → Ob) (ids : List Nat) (fr : Nat) (v : V) : V := v.mapRefF (renRef (fun i => some (backId ids fr i)) (fun i g => some (g + backGen h ids i)))
noncomputable def backOb (h : Nat → Ob) (ids : List Nat) (fr : Nat) (k : Nat) : List Ob → Upd
  | [] => []
  | o :: r => (backId ids fr k, o.ren (renRef (fun i => some (backId ids fr i)) (fun i g => some (g + backGen h ids i))) (· + backGen h ids k)) :: backOb h ids fr (k + 1) r
noncomputable def freeze (T : TypeId → Ty) (h : Nat → Ob) (bor : List Nat) (v : V) (objs : List Ob) : Upd :=
  match v.flatF && objs.all (fun o => o.flatIn T && (o.rw || !o.alive)) with | true => [] | false => bor.map fun i => (i, (h i).setRo)
noncomputable def backU (T : TypeId → Ty) (h : Nat → Ob) (ids bor : List Nat) (fr : Nat) (v : V) (objs : List Ob) : Upd := freeze T h bor v objs ++ backOb h ids fr 0 objs
noncomputable def backRs (T : TypeId → Ty) (h : Nat → Ob) (ids bor : List Nat) (fr : Nat) : Out → Tr Rs
  | .ret v objs => (match Nat.ble ids.length objs.length && Nat.ble objs.length (ids.length + 64) with
    | true => .ret (.ok (backV h ids fr v) (backU T h ids bor fr v objs))
    | false => .fail)
  | .panic v objs => (match Nat.ble ids.length objs.length && Nat.ble objs.length (ids.length + 64) && v.noRef with
    | true => .ret (.pan v (backU T h ids bor fr v objs))
    | false => .fail)
/-- Arguments in their types' forms. -/
def normL (T : TypeId → Ty) : List TypeId → List V → List V
  | t :: ts, v :: vs => (match (T t).ok && isFormT (T t) v with | true => etaT (T t) v | false => v) :: normL T ts vs
  | _, vs => vs
noncomputable def evCall (E : Env) (h : Nat → Ob) (fr : Nat) (f : FuncId) (args : List V) : Tr Rs :=
  let ids := reach h (V.refsLF (split (E.mode f) args).1)
  let bor := reach h (V.refsLF (split (E.mode f) args).2)
  match apart h ids bor with
  | false => .fail
  | true => (E.C f (passArgs E.ty h (reV h gen0 ids) (E.mode f) args) (reO h gen0 ids)).bind (backRs E.ty h ids bor fr)

/-- A lookup's result: with ok, or without. -/
def withOk (ok : Bool) (v : V) (b : Bool) : V := match ok with | true => .tup [v, .bool b] | false => v
def optTr {α β : Type} (o : Option α) (f : α → Tr β) : Tr β := match o with | some a => f a | none => .fail

def isConst : Operand → Bool | .const _ => true | _ => false
def eqI : V → V → Option Bool
  | .nili, .nili => some true
  | .nili, .iface .. => some false
  | .iface .., .nili => some false
  | _, _ => none
/-- Whether a slice is nil, where it is held against nil. -/
def nilS : Operand → V → Option Bool
  | .const (.slice none 0 0), .nils => some true
  | .const (.slice none 0 0), .seq _ (_ :: _) => some false
  | .const (.slice none 0 0), .fix _ (_ :: _) => some false
  | _, _ => none
noncomputable def evOp (E : Env) (h : Nat → Ob) (s : Nat → V) (fr : Nat) (o : Oper) : Tr Rs :=
  match o.op with
  | .move x => .ret (.ok (ev E s x) [])
  | .assign (.const (.slice none 0 0)) => (match (E.ty o.type).d with | .slice e => (match (E.ty e).ok with | true => newRow fr e [] | false => .fail) | _ => .fail)
  | .assign x => .ret (.ok (ev E s x) [])
  | .pick c a b => (match ev E s c with
    | .bool t => .ite t (.ret (.ok (ev E s a) [])) (.ret (.ok (ev E s b) []))
    | _ => .fail)
  | .alloc t => (match (E.ty t).ok with | false => .fail | true => .ret (.ok (.box fr 0) [(fr, .box false (zeroB (E.ty t)).cells)]))
  | .box t x => (match (E.ty t).ok && Nat.beq (ev E s x).cells.length (E.ty t).size && (ev E s x).cells.all V.storable with | true => .ret (.ok (.box fr 0) [(fr, .box false (ev E s x).cells)]) | false => .fail)
  | .build t parts => (match (E.ty t).d with
    | .struct fs => optTr (fillAgg fs (ev E s) parts.toList (zeroB (E.ty t)).cells) fun cs => .ret (.ok (.agg cs) [])
    | .array n e => optTr (match (E.ty e).ok with | false => none | true => fillAgg ((List.range n).map fun i => (i * (E.ty e).size, (E.ty e).size, false)) (ev E s) parts.toList (zeroB (E.ty t)).cells) fun cs => .ret (.ok (.agg cs) [])
    | _ => .fail)
  | .buildSlice t len parts => (match (E.ty t).d with
    | .slice e => (match Nat.ble len 65536 && (E.ty e).ok with
      | true => (match fillRow (E.ty e) (ev E s) parts.toList (List.replicate len (zeroT (E.ty e))) with
        | some vs => newRow fr e vs
        | none => optTr (fillAgg ((List.range len).map fun i => (i * (E.ty e).size, (E.ty e).size, (E.ty e).agg)) (ev E s) parts.toList (List.replicate len (zeroT (E.ty e)).cells).flatten) fun cs => .ret (.ok (.bsl e fr len) [(fr, .box false cs)]))
      | false => .fail)
    | _ => .fail)
  | .load t a => optTr (match (E.ty t).ok with | true => cellsAt E.ty h (ev E s a) | false => none) fun cs =>
      (match (E.ty t).agg with
      | true => (match Nat.ble (E.ty t).size cs.length with | true => .ret (.ok (.agg (cs.take (E.ty t).size)) []) | false => .fail)
      | false => (match cs with | c :: _ => .ret (.ok c []) | [] => .fail))
  | .store t a x => (match ev E s a with
    | .box i j => (match h i with
      | .box false cs => (match (E.ty t).ok && Nat.beq (ev E s x).cells.length (E.ty t).size && Nat.ble (j + (ev E s x).cells.length) cs.length && (ev E s x).cells.all V.storable with
        | true => .ret (.ok .top [(i, .box false (cs.take j ++ (ev E s x).cells ++ cs.drop (j + (ev E s x).cells.length)))])
        | false => .fail)
      | _ => .fail)
    | .elt i g k j => (match h i with
      | .row false g' e vs => (match (E.ty t).ok && Nat.beq g g' && Nat.beq (ev E s x).cells.length (E.ty t).size && Nat.ble (j + (ev E s x).cells.length) (E.ty e).kinds.length
            && isFormL (((E.ty e).kinds.drop j).take (ev E s x).cells.length) (ev E s x).cells && (ev E s x).noRef with
        | true => .ret (.ok .top [(i, .row false g' e (vs.set k (pack (E.ty e).agg ((etaT (E.ty e) (vs.getD k .top)).cells.take j ++ etaL (((E.ty e).kinds.drop j).take (ev E s x).cells.length) 0 (.agg (ev E s x).cells) ++ (etaT (E.ty e) (vs.getD k .top)).cells.drop (j + (ev E s x).cells.length)))))])
        | false => .fail)
      | _ => .fail)
    | _ => .fail)
  | .binOp op t x y _ => (match nilS y (ev E s x) with
    | some r => (match (E.ty t).d, op with
      | .slice _, .eql => .ret (.ok (.bool r) [])
      | .slice _, .neq => .ret (.ok (.bool !r) [])
      | _, _ => .fail)
    | none => match eqI (ev E s x) (ev E s y) with
    | some r => (match (E.ty t).d, isConst x || isConst y, op with
      | .iface, true, .eql => .ret (.ok (.bool r) [])
      | .iface, true, .neq => .ret (.ok (.bool !r) [])
      | _, _, _ => .fail)
    | none => (binV (E.ty t) op (ev E s x) (ev E s y)).bind fun v => .ret (.ok v []))
  | .unOp op _ x => (match op, ev E s x with
    | .not, .bool b => .ret (.ok (.bool !b) [])
    | .neg, .int k n => .ret (.ok (.int k (k.wrap (0 - n))) [])
    | .xor, .int k n => .ret (.ok (.int k (k.wrap (BitVec.ofInt k.bits (if k.signed then -1 else k.max) ^^^ BitVec.ofInt k.bits n).toNat)) [])
    | _, _ => .fail)
  | .convert src dst x => (match (E.ty dst).d, ev E s x with
    | .int k, .int _ n => (match (E.ty src).ok with | true => .ret (.ok (.int k (k.wrap n)) []) | false => .fail)
    | .str, .str b => (match (E.ty src).d with | .str => .ret (.ok (.str b) []) | _ => .fail)
    | .str, v => (match (E.ty src).d with
      | .slice e => (match (E.ty e).d, els h v with
        | .int .u8, some (t, vs) => (match Nat.beq t e with | true => .ret (.ok (.str (bytesOf vs)) []) | false => .fail)
        | _, _ => .fail)
      | _ => .fail)
    | .slice e, .str b => (match (E.ty src).ok, (E.ty e).d with
      | true, .int .u8 => .ret (.ok (.seq e (b.map fun c => .int .u8 c.toNat)) [])
      | _, _ => .fail)
    | _, _ => .fail)
  | .makeFunc (.func f) a b => .ret (.ok (.clo f (a.toList.map (ev E s)) (b.toList.map (ev E s))) [])
  | .makeMap t none => (match (E.ty t).d with | .map .. => .ret (.ok (.mref fr) [(fr, .dict false t [] [])]) | _ => .fail)
  | .makeSlice t l c => (match (E.ty t).d, ev E s l, ev E s c with
    | .slice e, .int .i64 n, .int .i64 m => .test ((E.ty e).ok && decide (0 ≤ n) && decide (n = m) && decide (n ≤ (lim : Int))) (match (E.ty e).kinds.any Kd.isSeq with
      | true => .ret (.ok (.bsl e fr n.toNat) [(fr, .box false (List.replicate n.toNat (zeroB (E.ty e)).cells).flatten)])
      | false => newRow fr e (List.replicate n.toNat (zeroT (E.ty e))))
    | _, _, _ => .fail)
  | .slice t x lo hi none => (match (E.ty t).d, ev E s x with
    | .str, .str b => (match loI E s lo 0, loI E s hi b.length with
      | some l, some hh => .test (decide (0 ≤ l) && decide (l ≤ hh) && decide (hh ≤ (b.length : Int))) (.ret (.ok (.str ((b.drop l.toNat).take (hh.toNat - l.toNat))) []))
      | _, _ => .fail)
    | .slice e, v => (match (E.ty e).ok, lenV v with
      | true, some len => (match loI E s lo 0, loI E s hi len with
        | some l, some hh => .test (decide (0 ≤ l) && decide (l ≤ hh) && decide (hh ≤ (len : Int))) (match v with
          | .seq t vs => (match Nat.beq t e || vs.isEmpty with | true => .ret (.ok (.seq t ((vs.drop l.toNat).take (hh.toNat - l.toNat))) []) | false => .fail)
          | .full t i g _ => (match Nat.beq t e with | true => .ret (.ok (.sub t i g l.toNat (hh.toNat - l.toNat)) []) | false => .fail)
          | .sub t i g o _ => (match Nat.beq t e with | true => .ret (.ok (.sub t i g (o + l.toNat) (hh.toNat - l.toNat)) []) | false => .fail)
          | _ => .fail)
        | _, _ => .fail)
      | _, _ => .fail)
    | .array n e, .pref cs => (match lo, hi with
      | none, none => (match (E.ty e).ok && !(E.ty e).agg && Nat.ble n cs.length && (cs.take n).all (isFormT (E.ty e)) with
        | true => .ret (.ok (.seq e ((cs.take n).map (etaT (E.ty e)))) [])
        | false => .fail)
      | _, _ => .fail)
    | _, _ => .fail)
  | .slice t x none (some hi) (some mx) => (match (E.ty t).d, ev E s x, ev E s hi, ev E s mx with
    | .slice e, .seq t' vs, .int _ n, .int _ k => (match (E.ty e).ok && (Nat.beq t' e || vs.isEmpty) with
      | true => .test (decide (0 ≤ n) && decide (n ≤ (vs.length : Int)) && decide (k = n)) (.ret (.ok (.fix e (vs.take n.toNat)) []))
      | false => .fail)
    | _, _, _, _ => .fail)
  | .fieldAddr t x f => (match (E.ty t).d with
    | .struct fs => (match fs[f]?, ev E s x with
      | some (off, _, _), .pref cs => .ret (.ok (.pref (cs.drop off)) [])
      | some (off, _, _), .box i j => .ret (.ok (.box i (j + off)) [])
      | some (off, _, _), .elt i g k j => .ret (.ok (.elt i g k (j + off)) [])
      | _, _ => .fail)
    | _ => .fail)
  | .field t x f => (match (E.ty t).d with
    | .struct fs => (match fs[f]?, ev E s x with
      | some (off, n, a), .agg cs => (match Nat.ble (off + n) cs.length with
        | true => .ret (.ok (pack a ((cs.drop off).take n)) [])
        | false => .fail)
      | _, _ => .fail)
    | _ => .fail)
  | .indexAddr t x ix => (match ev E s ix with
    | .int _ n => (match (E.ty t).d with
      | .slice e => (match ev E s x with
        | .seq t vs => (match Nat.beq t e && (E.ty e).ok with
          | true => .test (decide (0 ≤ n) && decide (n < (vs.length : Int))) (.ret (.ok (.pref (etaT (E.ty e) (vs.getD n.toNat .top)).cells) []))
          | false => .fail)
        | .full t i g m => .test (Nat.beq t e && (E.ty e).ok && decide (0 ≤ n) && decide (n < (m : Int))) (.ret (.ok (.elt i g n.toNat 0) []))
        | .sub t i g o m => .test (Nat.beq t e && (E.ty e).ok && decide (0 ≤ n) && decide (n < (m : Int))) (.ret (.ok (.elt i g (o + n.toNat) 0) []))
        | .bsl t i m => .test (Nat.beq t e && (E.ty e).ok && decide (0 ≤ n) && decide (n < (m : Int))) (.ret (.ok (.box i (n.toNat * (E.ty e).size)) []))
        | _ => .fail)
      | .array m e => .test ((E.ty e).ok && decide (0 ≤ n) && decide (n < (m : Int))) (match ev E s x with
        | .pref cs => .ret (.ok (.pref (cs.drop (n.toNat * (E.ty e).size))) [])
        | .box i j => .ret (.ok (.box i (j + n.toNat * (E.ty e).size)) [])
        | .elt i g k j => .ret (.ok (.elt i g k (j + n.toNat * (E.ty e).size)) [])
        | _ => .fail)
      | _ => .fail)
    | _ => .fail)
  | .index t x ix => (match (E.ty t).d, ev E s x, ev E s ix with
    | .str, .str b, .int _ n => .test (decide (0 ≤ n) && decide (n < (b.length : Int))) (.ret (.ok (.int .u8 (b.getD n.toNat 0).toNat) []))
    | .array m e, .agg cs, .int _ n => (match (E.ty e).ok && Nat.ble (m * (E.ty e).size) cs.length with
      | true => .test (decide (0 ≤ n) && decide (n < (m : Int))) (.ret (.ok (pack (E.ty e).agg ((cs.drop (n.toNat * (E.ty e).size)).take (E.ty e).size)) []))
      | false => .fail)
    | _, _, _ => .fail)
  | .lookup t x k ok => (match (E.ty t).d with
    | .map kt et =>
      let kv := ev E s k
      (match (E.ty kt).ok && (E.ty et).ok && isFormT (E.ty kt) kv && plainKey (E.ty kt) with
      | false => .fail
      | true =>
        let go := fun (ks vs : List V) => (.ite (dictFind (E.ty kt) kv ks vs).isSome
            (.ret (.ok (withOk ok (etaT (E.ty et) ((dictFind (E.ty kt) kv ks vs).getD .top)) true) []))
            (.ret (.ok (withOk ok (zeroT (E.ty et)) false) [])) : Tr Rs)
        (match ev E s x with
        | .mref i => (match h i with | .dict _ t' ks vs => (match Nat.beq t t' with | true => go ks vs | false => .fail) | _ => .fail)
        | .dict t' ks vs => (match Nat.beq t t' with | true => go ks vs | false => .fail)
        | .nilm => .ret (.ok (withOk ok (zeroT (E.ty et)) false) [])
        | _ => .fail))
    | _ => .fail)
  | .mapUpdate t m k x => (match (E.ty t).d with
    | .map kt et => (match (E.ty kt).ok && (E.ty et).ok && isFormT (E.ty kt) (ev E s k) && plainKey (E.ty kt) && isFormT (E.ty et) (ev E s x) && (ev E s x).noRef with
      | true => (match ev E s m with
        | .mref i => (match h i with
          | .dict false t' ks vs => (match Nat.beq t t' with
            | true => .ret (.ok .top [(i, .dict false t' (dictPut (E.ty kt) (ev E s k) (etaT (E.ty et) (ev E s x)) ks vs).1 (dictPut (E.ty kt) (ev E s k) (etaT (E.ty et) (ev E s x)) ks vs).2)])
            | false => .fail)
          | _ => .fail)
        | _ => .fail)
      | false => .fail)
    | _ => .fail)
  | .range t x => (match (E.ty t).d, ev E s x with
    | .str, .str b => .ret (.ok (.itr fr) [(fr, .sit false b 0)])
    | _, _ => .fail)
  | .next x true => (match ev E s x with
    | .itr i => (match h i with
      | .sit false b k => (match b[k]? with
        | some c => .test (Nat.blt c.toNat 128) (.ret (.ok (.tup [.bool true, .int .i64 k, .int .i32 c.toNat]) [(i, .sit false b (k + 1))]))
        | none => .ret (.ok (.tup [.bool false]) []))
      | _ => .fail)
    | _ => .fail)
  | .nilCheck x => (match ev E s x with
    | .pref cs => .ret (.ok (.pref cs) [])
    | .box i j => .ret (.ok (.box i j) [])
    | .elt i g k j => .ret (.ok (.elt i g k j) [])
    | _ => .fail)
  | .makeInterface t x => (match (E.ty t).ok && !decide ((E.ty t).d = .iface) with
    | true => .ret (.ok (.iface t (ev E s x)) [])
    | false => .fail)
  | .typeAssert x _ t ok => (match (E.ty t).ok && !decide ((E.ty t).d = .iface) with
    | false => .fail
    | true => (match ev E s x with
      | .nili => (match ok with | true => .ret (.ok (.tup [zeroT (E.ty t), .bool false]) []) | false => .fail)
      | .iface u v => (match Nat.beq u t with
        | true => .ret (.ok (withOk ok v true) [])
        | false => (match ok with | true => .ret (.ok (.tup [zeroT (E.ty t), .bool false]) []) | false => .fail))
      | _ => .fail))
  | .extract t n => (match ev E s t with
    | .tup vs => optTr vs[n]? fun v => .ret (.ok v [])
    | _ => .fail)
  | .call c => (match c.callee with
    | .builtin b => evBuiltin E h fr b c.argTypes (c.args.toList.map (ev E s))
    | .value f => (match ev E s f with
      | .clo f a b => evCall E h fr f (a ++ normL E.ty c.argTypes.toList (c.args.toList.map (ev E s)) ++ b)
      | _ => .fail)
    | _ => .fail)
  | .panic x => (match ev E s x with
    | .iface t v => (match v.noRef with | true => .ret (.pan (.iface t v) []) | false => .fail)
    | _ => .fail)
  | _ => .fail

noncomputable def evO_move (E : Env) (s : Nat → V) (p : Op) : Tr Rs := match p with
  | .move x => .ret (.ok (ev E s x) [])
  | _ => .fail
noncomputable def evO_assign (E : Env) (s : Nat → V) (fr : Nat) (o : Oper) (p : Op) : Tr Rs := match p with
  | .assign (.const (.slice none 0 0)) => (match (E.ty o.type).d with | .slice e => (match (E.ty e).ok with | true => newRow fr e [] | false => .fail) | _ => .fail)
  | .assign x => .ret (.ok (ev E s x) [])
  | _ => .fail
noncomputable def evO_pick (E : Env) (s : Nat → V) (p : Op) : Tr Rs := match p with
  | .pick c a b => (match ev E s c with
    | .bool t => .ite t (.ret (.ok (ev E s a) [])) (.ret (.ok (ev E s b) []))
    | _ => .fail)
  | _ => .fail
noncomputable def evO_alloc (E : Env) (fr : Nat) (p : Op) : Tr Rs := match p with
  | .alloc t => (match (E.ty t).ok with | false => .fail | true => .ret (.ok (.box fr 0) [(fr, .box false (zeroB (E.ty t)).cells)]))
  | _ => .fail
noncomputable def evO_box (E : Env) (s : Nat → V) (fr : Nat) (p : Op) : Tr Rs := match p with
  | .box t x => (match (E.ty t).ok && Nat.beq (ev E s x).cells.length (E.ty t).size && (ev E s x).cells.all V.storable with | true => .ret (.ok (.box fr 0) [(fr, .box false (ev E s x).cells)]) | false => .fail)
  | _ => .fail
noncomputable def evO_build (E : Env) (s : Nat → V) (p : Op) : Tr Rs := match p with
  | .build t parts => (match (E.ty t).d with
    | .struct fs => optTr (fillAgg fs (ev E s) parts.toList (zeroB (E.ty t)).cells) fun cs => .ret (.ok (.agg cs) [])
    | .array n e => optTr (match (E.ty e).ok with | false => none | true => fillAgg ((List.range n).map fun i => (i * (E.ty e).size, (E.ty e).size, false)) (ev E s) parts.toList (zeroB (E.ty t)).cells) fun cs => .ret (.ok (.agg cs) [])
    | _ => .fail)
  | _ => .fail
noncomputable def evO_buildSlice (E : Env) (s : Nat → V) (fr : Nat) (p : Op) : Tr Rs := match p with
  | .buildSlice t len parts => (match (E.ty t).d with
    | .slice e => (match Nat.ble len 65536 && (E.ty e).ok with
      | true => (match fillRow (E.ty e) (ev E s) parts.toList (List.replicate len (zeroT (E.ty e))) with
        | some vs => newRow fr e vs
        | none => optTr (fillAgg ((List.range len).map fun i => (i * (E.ty e).size, (E.ty e).size, (E.ty e).agg)) (ev E s) parts.toList (List.replicate len (zeroT (E.ty e)).cells).flatten) fun cs => .ret (.ok (.bsl e fr len) [(fr, .box false cs)]))
      | false => .fail)
    | _ => .fail)
  | _ => .fail
noncomputable def evO_load (E : Env) (h : Nat → Ob) (s : Nat → V) (p : Op) : Tr Rs := match p with
  | .load t a => optTr (match (E.ty t).ok with | true => cellsAt E.ty h (ev E s a) | false => none) fun cs =>
      (match (E.ty t).agg with
      | true => (match Nat.ble (E.ty t).size cs.length with | true => .ret (.ok (.agg (cs.take (E.ty t).size)) []) | false => .fail)
      | false => (match cs with | c :: _ => .ret (.ok c []) | [] => .fail))
  | _ => .fail
noncomputable def evO_store (E : Env) (h : Nat → Ob) (s : Nat → V) (p : Op) : Tr Rs := match p with
  | .store t a x => (match ev E s a with
    | .box i j => (match h i with
      | .box false cs => (match (E.ty t).ok && Nat.beq (ev E s x).cells.length (E.ty t).size && Nat.ble (j + (ev E s x).cells.length) cs.length && (ev E s x).cells.all V.storable with
        | true => .ret (.ok .top [(i, .box false (cs.take j ++ (ev E s x).cells ++ cs.drop (j + (ev E s x).cells.length)))])
        | false => .fail)
      | _ => .fail)
    | .elt i g k j => (match h i with
      | .row false g' e vs => (match (E.ty t).ok && Nat.beq g g' && Nat.beq (ev E s x).cells.length (E.ty t).size && Nat.ble (j + (ev E s x).cells.length) (E.ty e).kinds.length
            && isFormL (((E.ty e).kinds.drop j).take (ev E s x).cells.length) (ev E s x).cells && (ev E s x).noRef with
        | true => .ret (.ok .top [(i, .row false g' e (vs.set k (pack (E.ty e).agg ((etaT (E.ty e) (vs.getD k .top)).cells.take j ++ etaL (((E.ty e).kinds.drop j).take (ev E s x).cells.length) 0 (.agg (ev E s x).cells) ++ (etaT (E.ty e) (vs.getD k .top)).cells.drop (j + (ev E s x).cells.length)))))])
        | false => .fail)
      | _ => .fail)
    | _ => .fail)
  | _ => .fail
noncomputable def evO_binOp (E : Env) (s : Nat → V) (p : Op) : Tr Rs := match p with
  | .binOp op t x y _ => (match nilS y (ev E s x) with
    | some r => (match (E.ty t).d, op with
      | .slice _, .eql => .ret (.ok (.bool r) [])
      | .slice _, .neq => .ret (.ok (.bool !r) [])
      | _, _ => .fail)
    | none => match eqI (ev E s x) (ev E s y) with
    | some r => (match (E.ty t).d, isConst x || isConst y, op with
      | .iface, true, .eql => .ret (.ok (.bool r) [])
      | .iface, true, .neq => .ret (.ok (.bool !r) [])
      | _, _, _ => .fail)
    | none => (binV (E.ty t) op (ev E s x) (ev E s y)).bind fun v => .ret (.ok v []))
  | _ => .fail
noncomputable def evO_unOp (E : Env) (s : Nat → V) (p : Op) : Tr Rs := match p with
  | .unOp op _ x => (match op, ev E s x with
    | .not, .bool b => .ret (.ok (.bool !b) [])
    | .neg, .int k n => .ret (.ok (.int k (k.wrap (0 - n))) [])
    | .xor, .int k n => .ret (.ok (.int k (k.wrap (BitVec.ofInt k.bits (if k.signed then -1 else k.max) ^^^ BitVec.ofInt k.bits n).toNat)) [])
    | _, _ => .fail)
  | _ => .fail
noncomputable def evO_convert (E : Env) (h : Nat → Ob) (s : Nat → V) (p : Op) : Tr Rs := match p with
  | .convert src dst x => (match (E.ty dst).d, ev E s x with
    | .int k, .int _ n => (match (E.ty src).ok with | true => .ret (.ok (.int k (k.wrap n)) []) | false => .fail)
    | .str, .str b => (match (E.ty src).d with | .str => .ret (.ok (.str b) []) | _ => .fail)
    | .str, v => (match (E.ty src).d with
      | .slice e => (match (E.ty e).d, els h v with
        | .int .u8, some (t, vs) => (match Nat.beq t e with | true => .ret (.ok (.str (bytesOf vs)) []) | false => .fail)
        | _, _ => .fail)
      | _ => .fail)
    | .slice e, .str b => (match (E.ty src).ok, (E.ty e).d with
      | true, .int .u8 => .ret (.ok (.seq e (b.map fun c => .int .u8 c.toNat)) [])
      | _, _ => .fail)
    | _, _ => .fail)
  | _ => .fail
noncomputable def evO_makeFunc (E : Env) (s : Nat → V) (p : Op) : Tr Rs := match p with
  | .makeFunc (.func f) a b => .ret (.ok (.clo f (a.toList.map (ev E s)) (b.toList.map (ev E s))) [])
  | _ => .fail
noncomputable def evO_makeMap (E : Env) (fr : Nat) (p : Op) : Tr Rs := match p with
  | .makeMap t none => (match (E.ty t).d with | .map .. => .ret (.ok (.mref fr) [(fr, .dict false t [] [])]) | _ => .fail)
  | _ => .fail
noncomputable def evO_makeSlice (E : Env) (s : Nat → V) (fr : Nat) (p : Op) : Tr Rs := match p with
  | .makeSlice t l c => (match (E.ty t).d, ev E s l, ev E s c with
    | .slice e, .int .i64 n, .int .i64 m => .test ((E.ty e).ok && decide (0 ≤ n) && decide (n = m) && decide (n ≤ (lim : Int))) (match (E.ty e).kinds.any Kd.isSeq with
      | true => .ret (.ok (.bsl e fr n.toNat) [(fr, .box false (List.replicate n.toNat (zeroB (E.ty e)).cells).flatten)])
      | false => newRow fr e (List.replicate n.toNat (zeroT (E.ty e))))
    | _, _, _ => .fail)
  | _ => .fail
noncomputable def evO_slice (E : Env) (s : Nat → V) (p : Op) : Tr Rs := match p with
  | .slice t x lo hi none => (match (E.ty t).d, ev E s x with
    | .str, .str b => (match loI E s lo 0, loI E s hi b.length with
      | some l, some hh => .test (decide (0 ≤ l) && decide (l ≤ hh) && decide (hh ≤ (b.length : Int))) (.ret (.ok (.str ((b.drop l.toNat).take (hh.toNat - l.toNat))) []))
      | _, _ => .fail)
    | .slice e, v => (match (E.ty e).ok, lenV v with
      | true, some len => (match loI E s lo 0, loI E s hi len with
        | some l, some hh => .test (decide (0 ≤ l) && decide (l ≤ hh) && decide (hh ≤ (len : Int))) (match v with
          | .seq t vs => (match Nat.beq t e || vs.isEmpty with | true => .ret (.ok (.seq t ((vs.drop l.toNat).take (hh.toNat - l.toNat))) []) | false => .fail)
          | .full t i g _ => (match Nat.beq t e with | true => .ret (.ok (.sub t i g l.toNat (hh.toNat - l.toNat)) []) | false => .fail)
          | .sub t i g o _ => (match Nat.beq t e with | true => .ret (.ok (.sub t i g (o + l.toNat) (hh.toNat - l.toNat)) []) | false => .fail)
          | _ => .fail)
        | _, _ => .fail)
      | _, _ => .fail)
    | .array n e, .pref cs => (match lo, hi with
      | none, none => (match (E.ty e).ok && !(E.ty e).agg && Nat.ble n cs.length && (cs.take n).all (isFormT (E.ty e)) with
        | true => .ret (.ok (.seq e ((cs.take n).map (etaT (E.ty e)))) [])
        | false => .fail)
      | _, _ => .fail)
    | _, _ => .fail)
  | .slice t x none (some hi) (some mx) => (match (E.ty t).d, ev E s x, ev E s hi, ev E s mx with
    | .slice e, .seq t' vs, .int _ n, .int _ k => (match (E.ty e).ok && (Nat.beq t' e || vs.isEmpty) with
      | true => .test (decide (0 ≤ n) && decide (n ≤ (vs.length : Int)) && decide (k = n)) (.ret (.ok (.fix e (vs.take n.toNat)) []))
      | false => .fail)
    | _, _, _, _ => .fail)
  | _ => .fail
noncomputable def evO_fieldAddr (E : Env) (s : Nat → V) (p : Op) : Tr Rs := match p with
  | .fieldAddr t x f => (match (E.ty t).d with
    | .struct fs => (match fs[f]?, ev E s x with
      | some (off, _, _), .pref cs => .ret (.ok (.pref (cs.drop off)) [])
      | some (off, _, _), .box i j => .ret (.ok (.box i (j + off)) [])
      | some (off, _, _), .elt i g k j => .ret (.ok (.elt i g k (j + off)) [])
      | _, _ => .fail)
    | _ => .fail)
  | _ => .fail
noncomputable def evO_field (E : Env) (s : Nat → V) (p : Op) : Tr Rs := match p with
  | .field t x f => (match (E.ty t).d with
    | .struct fs => (match fs[f]?, ev E s x with
      | some (off, n, a), .agg cs => (match Nat.ble (off + n) cs.length with
        | true => .ret (.ok (pack a ((cs.drop off).take n)) [])
        | false => .fail)
      | _, _ => .fail)
    | _ => .fail)
  | _ => .fail
noncomputable def evO_indexAddr (E : Env) (s : Nat → V) (p : Op) : Tr Rs := match p with
  | .indexAddr t x ix => (match ev E s ix with
    | .int _ n => (match (E.ty t).d with
      | .slice e => (match ev E s x with
        | .seq t vs => (match Nat.beq t e && (E.ty e).ok with
          | true => .test (decide (0 ≤ n) && decide (n < (vs.length : Int))) (.ret (.ok (.pref (etaT (E.ty e) (vs.getD n.toNat .top)).cells) []))
          | false => .fail)
        | .full t i g m => .test (Nat.beq t e && (E.ty e).ok && decide (0 ≤ n) && decide (n < (m : Int))) (.ret (.ok (.elt i g n.toNat 0) []))
        | .sub t i g o m => .test (Nat.beq t e && (E.ty e).ok && decide (0 ≤ n) && decide (n < (m : Int))) (.ret (.ok (.elt i g (o + n.toNat) 0) []))
        | .bsl t i m => .test (Nat.beq t e && (E.ty e).ok && decide (0 ≤ n) && decide (n < (m : Int))) (.ret (.ok (.box i (n.toNat * (E.ty e).size)) []))
        | _ => .fail)
      | .array m e => .test ((E.ty e).ok && decide (0 ≤ n) && decide (n < (m : Int))) (match ev E s x with
        | .pref cs => .ret (.ok (.pref (cs.drop (n.toNat * (E.ty e).size))) [])
        | .box i j => .ret (.ok (.box i (j + n.toNat * (E.ty e).size)) [])
        | .elt i g k j => .ret (.ok (.elt i g k (j + n.toNat * (E.ty e).size)) [])
        | _ => .fail)
      | _ => .fail)
    | _ => .fail)
  | _ => .fail
noncomputable def evO_index (E : Env) (s : Nat → V) (p : Op) : Tr Rs := match p with
  | .index t x ix => (match (E.ty t).d, ev E s x, ev E s ix with
    | .str, .str b, .int _ n => .test (decide (0 ≤ n) && decide (n < (b.length : Int))) (.ret (.ok (.int .u8 (b.getD n.toNat 0).toNat) []))
    | .array m e, .agg cs, .int _ n => (match (E.ty e).ok && Nat.ble (m * (E.ty e).size) cs.length with
      | true => .test (decide (0 ≤ n) && decide (n < (m : Int))) (.ret (.ok (pack (E.ty e).agg ((cs.drop (n.toNat * (E.ty e).size)).take (E.ty e).size)) []))
      | false => .fail)
    | _, _, _ => .fail)
  | _ => .fail
noncomputable def evO_lookup (E : Env) (h : Nat → Ob) (s : Nat → V) (p : Op) : Tr Rs := match p with
  | .lookup t x k ok => (match (E.ty t).d with
    | .map kt et =>
      let kv := ev E s k
      (match (E.ty kt).ok && (E.ty et).ok && isFormT (E.ty kt) kv && plainKey (E.ty kt) with
      | false => .fail
      | true =>
        let go := fun (ks vs : List V) => (.ite (dictFind (E.ty kt) kv ks vs).isSome
            (.ret (.ok (withOk ok (etaT (E.ty et) ((dictFind (E.ty kt) kv ks vs).getD .top)) true) []))
            (.ret (.ok (withOk ok (zeroT (E.ty et)) false) [])) : Tr Rs)
        (match ev E s x with
        | .mref i => (match h i with | .dict _ t' ks vs => (match Nat.beq t t' with | true => go ks vs | false => .fail) | _ => .fail)
        | .dict t' ks vs => (match Nat.beq t t' with | true => go ks vs | false => .fail)
        | .nilm => .ret (.ok (withOk ok (zeroT (E.ty et)) false) [])
        | _ => .fail))
    | _ => .fail)
  | _ => .fail
noncomputable def evO_mapUpdate (E : Env) (h : Nat → Ob) (s : Nat → V) (p : Op) : Tr Rs := match p with
  | .mapUpdate t m k x => (match (E.ty t).d with
    | .map kt et => (match (E.ty kt).ok && (E.ty et).ok && isFormT (E.ty kt) (ev E s k) && plainKey (E.ty kt) && isFormT (E.ty et) (ev E s x) && (ev E s x).noRef with
      | true => (match ev E s m with
        | .mref i => (match h i with
          | .dict false t' ks vs => (match Nat.beq t t' with
            | true => .ret (.ok .top [(i, .dict false t' (dictPut (E.ty kt) (ev E s k) (etaT (E.ty et) (ev E s x)) ks vs).1 (dictPut (E.ty kt) (ev E s k) (etaT (E.ty et) (ev E s x)) ks vs).2)])
            | false => .fail)
          | _ => .fail)
        | _ => .fail)
      | false => .fail)
    | _ => .fail)
  | _ => .fail
noncomputable def evO_range (E : Env) (s : Nat → V) (fr : Nat) (p : Op) : Tr Rs := match p with
  | .range t x => (match (E.ty t).d, ev E s x with
    | .str, .str b => .ret (.ok (.itr fr) [(fr, .sit false b 0)])
    | _, _ => .fail)
  | _ => .fail
noncomputable def evO_next (E : Env) (h : Nat → Ob) (s : Nat → V) (p : Op) : Tr Rs := match p with
  | .next x true => (match ev E s x with
    | .itr i => (match h i with
      | .sit false b k => (match b[k]? with
        | some c => .test (Nat.blt c.toNat 128) (.ret (.ok (.tup [.bool true, .int .i64 k, .int .i32 c.toNat]) [(i, .sit false b (k + 1))]))
        | none => .ret (.ok (.tup [.bool false]) []))
      | _ => .fail)
    | _ => .fail)
  | _ => .fail
noncomputable def evO_nilCheck (E : Env) (s : Nat → V) (p : Op) : Tr Rs := match p with
  | .nilCheck x => (match ev E s x with
    | .pref cs => .ret (.ok (.pref cs) [])
    | .box i j => .ret (.ok (.box i j) [])
    | .elt i g k j => .ret (.ok (.elt i g k j) [])
    | _ => .fail)
  | _ => .fail
noncomputable def evO_makeInterface (E : Env) (s : Nat → V) (p : Op) : Tr Rs := match p with
  | .makeInterface t x => (match (E.ty t).ok && !decide ((E.ty t).d = .iface) with
    | true => .ret (.ok (.iface t (ev E s x)) [])
    | false => .fail)
  | _ => .fail
noncomputable def evO_typeAssert (E : Env) (s : Nat → V) (p : Op) : Tr Rs := match p with
  | .typeAssert x _ t ok => (match (E.ty t).ok && !decide ((E.ty t).d = .iface) with
    | false => .fail
    | true => (match ev E s x with
      | .nili => (match ok with | true => .ret (.ok (.tup [zeroT (E.ty t), .bool false]) []) | false => .fail)
      | .iface u v => (match Nat.beq u t with
        | true => .ret (.ok (withOk ok v true) [])
        | false => (match ok with | true => .ret (.ok (.tup [zeroT (E.ty t), .bool false]) []) | false => .fail))
      | _ => .fail))
  | _ => .fail
noncomputable def evO_extract (E : Env) (s : Nat → V) (p : Op) : Tr Rs := match p with
  | .extract t n => (match ev E s t with
    | .tup vs => optTr vs[n]? fun v => .ret (.ok v [])
    | _ => .fail)
  | _ => .fail
noncomputable def evO_call (E : Env) (h : Nat → Ob) (s : Nat → V) (fr : Nat) (p : Op) : Tr Rs := match p with
  | .call c => (match c.callee with
    | .builtin b => evBuiltin E h fr b c.argTypes (c.args.toList.map (ev E s))
    | .value f => (match ev E s f with
      | .clo f a b => evCall E h fr f (a ++ normL E.ty c.argTypes.toList (c.args.toList.map (ev E s)) ++ b)
      | _ => .fail)
    | _ => .fail)
  | _ => .fail
noncomputable def evO_panic (E : Env) (s : Nat → V) (p : Op) : Tr Rs := match p with
  | .panic x => (match ev E s x with
    | .iface t v => (match v.noRef with | true => .ret (.pan (.iface t v) []) | false => .fail)
    | _ => .fail)
  | _ => .fail
noncomputable def evOpF (E : Env) (h : Nat → Ob) (s : Nat → V) (fr : Nat) (o : Oper) : Tr Rs := match o.op with
  | .move .. => evO_move E s o.op
  | .assign .. => evO_assign E s fr o o.op
  | .pick .. => evO_pick E s o.op
  | .alloc .. => evO_alloc E fr o.op
  | .box .. => evO_box E s fr o.op
  | .build .. => evO_build E s o.op
  | .buildSlice .. => evO_buildSlice E s fr o.op
  | .load .. => evO_load E h s o.op
  | .store .. => evO_store E h s o.op
  | .binOp .. => evO_binOp E s o.op
  | .unOp .. => evO_unOp E s o.op
  | .convert .. => evO_convert E h s o.op
  | .makeFunc .. => evO_makeFunc E s o.op
  | .makeMap .. => evO_makeMap E fr o.op
  | .makeSlice .. => evO_makeSlice E s fr o.op
  | .slice .. => evO_slice E s o.op
  | .fieldAddr .. => evO_fieldAddr E s o.op
  | .field .. => evO_field E s o.op
  | .indexAddr .. => evO_indexAddr E s o.op
  | .index .. => evO_index E s o.op
  | .lookup .. => evO_lookup E h s o.op
  | .mapUpdate .. => evO_mapUpdate E h s o.op
  | .range .. => evO_range E s fr o.op
  | .next .. => evO_next E h s o.op
  | .nilCheck .. => evO_nilCheck E s o.op
  | .makeInterface .. => evO_makeInterface E s o.op
  | .typeAssert .. => evO_typeAssert E s o.op
  | .extract .. => evO_extract E s o.op
  | .call .. => evO_call E h s fr o.op
  | .panic .. => evO_panic E s o.op
  | _ => .fail
theorem evOpF_eq (E : Env) (h : Nat → Ob) (s : Nat → V) (fr : Nat) (o : Oper) : evOpF E h s fr o = evOp E h s fr o := by
  unfold evOpF evOp
  cases ho : o.op with
  | assign x => cases x with
    | const v => cases v with
      | slice a n k => cases a <;> cases n <;> cases k <;> rfl
      | _ => rfl
    | _ => rfl
  | makeFunc f a b => cases f <;> rfl
  | makeMap t r => cases r <;> rfl
  | slice t x lo hi mx => cases mx with
    | none => rfl
    | some m => cases lo <;> cases hi <;> rfl
  | next x k => cases k <;> rfl
  | _ => rfl

def putO (s : Nat → V) (d : Option Nat) (v : V) : Nat → V := match d with | some d => upd s d v | none => s

/-- Which operations an operation hangs on, by the edges that bind in every mode. -/
def predsGo (ops : List Oper) : Nat → List Nat → Nat → List Nat
  | 0, seen, _ => seen
  | n + 1, seen, k => match seen[k]? with
    | none => seen
    | some i => predsGo ops n (addNew seen (((ops[i]?).map fun o => (o.after.toList.filter (Region.binds .any)).map (·.on)).getD [])) (k + 1)
def preds (ops : List Oper) (i : Nat) : List Nat := (predsGo ops (ops.length + 1) [i] 0)
/-- What operations of a drawn region do not look at, and what alone they may write. -/
structure Hint where
  hide : Nat → List Nat
  wr : Nat → Option (List Nat)
def noHint : Hint := ⟨fun _ => [], fun _ => none⟩
def maskOb (base : Nat) (p hid : List Nat) (h : Nat → Ob) : Nat → Ob := fun i => (match (Nat.blt i base || p.contains ((i - base) / 64)) && !hid.contains i with | true => h i | false => .dead)

def opReads (ops : List Oper) (o : Oper) : List Nat :=
  (o.op.operands.toList.filterMap fun x => match x with | .tmp t => some t | _ => none) ++ (match o.guard with | some (i, _) => ((ops[i]?).bind (·.dst)).toList | none => [])
/-- It may write what was there. -/
def loud (mode : FuncId → List Bool) (o : Oper) : Bool := match o.op with
  | .store .. | .mapUpdate .. | .next .. => true
  | .call c => (match c.callee with | .builtin .len => false | .builtin .max => false | .builtin .min => false | .builtin _ => true | .value (.func f) => (mode f).any id | .value _ => true | _ => true)
  | _ => false
/-- It looks at no object. -/
def blind (o : Oper) : Bool := match o.op with
  | .move _ | .assign _ | .pick .. | .build .. | .binOp .. | .unOp .. | .makeFunc .. | .slice .. | .fieldAddr .. | .field .. | .indexAddr .. | .index .. | .extract .. | .nilCheck _ | .makeInterface .. | .typeAssert .. | .alloc _ | .box .. | .buildSlice .. | .makeMap .. | .makeSlice .. | .range .. => true
  | .call c => (match c.callee with | .builtin .len => true | .builtin .max => true | .builtin .min => true | _ => false)
  | _ => false
inductive Rg where
  | go (s : St) | pan (v : V) (s : St)
def maskSlot (l : List Nat) (s : Nat → V) : Nat → V := fun t => (match l.contains t with | true => s t | false => .top)
def viewOf (draw : Bool) (hd : Hint) (ops : List Oper) (base j : Nat) (o : Oper) (h : Nat → Ob) : Nat → Ob := match draw with
  | false => h
  | true => (match blind o with | true => fun _ => .dead | false => maskOb base (preds ops j) (hd.hide j) h)
def slotOf (draw : Bool) (ops : List Oper) (o : Oper) (s : Nat → V) : Nat → V := match draw with | false => s | true => maskSlot (opReads ops o) s
def ownU (fr : Nat) (u : Upd) : Bool := u.all fun p => Nat.ble fr p.1 && Nat.blt p.1 (fr + 64)
/-- What an operation may write, in a drawn order. -/
def okW (l : Option (List Nat)) (i : Nat) : Bool := match l with | none => true | some l => l.contains i
def okU (E : Env) (hd : Hint) (j : Nat) (o : Oper) (fr : Nat) (view : Nat → Ob) (u : Upd) : Bool := ownU fr u || (loud E.mode o && !blind o && u.all fun p => (Nat.ble fr p.1 && Nat.blt p.1 (fr + 64)) || ((view p.1).alive && okW (hd.wr j) p.1))
noncomputable def stepWith (E : Env) (draw : Bool) (hd : Hint) (ops : List Oper) (base j : Nat) (o : Oper) (s : St) : Tr Rg :=
  (evOpF E (viewOf draw hd ops base j o s.ob) (slotOf draw ops o s.slot) (base + 64 * j) o).bind fun x => match x with
    | .ok v u => (match !draw || okU E hd j o (base + 64 * j) (viewOf draw hd ops base j o s.ob) u with
      | true => .ret (.go { s with slot := putO s.slot o.dst v, ob := updL s.ob u })
      | false => .fail)
    | .pan v u => (match draw with | true => .fail | false => .ret (.pan v { s with ob := updL s.ob u }))
noncomputable def stepOp (E : Env) (draw : Bool) (hd : Hint) (ops : List Oper) (base : Nat) (s : St) (j : Nat) : Tr Rg :=
  match ops[j]? with
  | none => .ret (.go s)
  | some o => match o.guard with
    | none => stepWith E draw hd ops base j o s
    | some (i, want) => match (ops[i]?).bind (·.dst) with
      | some d => (match s.slot d with
        | .bool b => .ite (match want with | true => b | false => !b)
            (stepWith E draw hd ops base j o { s with slot := upd s.slot d (.bool want) })
            (.ret (.go { s with slot := putO (upd s.slot d (.bool !want)) o.dst (.tup []) }))
        | .tup [] => .ret (.go { s with slot := putO s.slot o.dst (.tup []) })
        | _ => .fail)
      | none => .fail
noncomputable def stepOps (E : Env) (draw : Bool) (hd : Hint) (ops : List Oper) (base : Nat) : List Nat → St → Tr Rg
  | [], s => .ret (.go s)
  | j :: r, s => (stepOp E draw hd ops base s j).bind fun x => match x with
    | .go s' => stepOps E draw hd ops base r s'
    | .pan v s' => .ret (.pan v s')

/-- What i may write, j does not look at. -/
def hidden (hd : Hint) (i j : Nat) : Bool := match hd.wr i with | some l => l.all (hd.hide j).contains | none => false
def indep (mode : FuncId → List Bool) (hd : Hint) (ops : List Oper) (i j : Nat) (a b : Oper) : Bool :=
  (match a.dst with | some d => !(opReads ops b).contains d && !(b.dst == some d) | none => true) &&
  (match b.dst with | some d => !(opReads ops a).contains d | none => true) &&
  (((!loud mode a || hidden hd i j) && (!loud mode b || hidden hd j i)) || blind a || blind b)
def allPairs (p : Nat → Nat → Bool) (n : Nat) : Bool := (List.range n).all fun j => (List.range j).all fun i => p i j
def backward (ops : List Oper) : Bool := (List.range ops.length).all fun j => ((ops[j]?).map fun o => o.after.all fun e => Nat.blt e.on j).getD true
/-- The same for the edges that bind in every mode. -/
def backAny (ops : List Oper) : Bool := (List.range ops.length).all fun j => ((ops[j]?).map fun o => o.after.toList.all fun e => !Region.binds .any e || Nat.blt e.on j).getD true
def maxOn (m : Region.Mode) (r : List Nat) : List Edge → Nat
  | [] => 0
  | e :: l => (match Region.binds m e with | true => Nat.max (r.getD e.on 0 + 1) (maxOn m r l) | false => maxOn m r l)
def rankIter (m : Region.Mode) (ops : List Oper) : Nat → List Nat → List Nat
  | 0, r => r
  | n + 1, r => rankIter m ops n (ops.map fun o => maxOn m r o.after.toList)
/-- The operations can be put in an order that a mode's edges allow. -/
def rankedBy (m : Region.Mode) (ops : List Oper) (r : List Nat) : Bool := (List.range ops.length).all fun j => ((ops[j]?).map fun o => o.after.toList.all fun e => !Region.binds m e || (Nat.blt (r.getD e.on 0) (r.getD j 0) && Nat.blt e.on ops.length)).getD true
def ranked (m : Region.Mode) (ops : List Oper) : Bool := (rankedBy m ops (rankIter m ops 8 [])) || rankedBy m ops (rankIter m ops 24 [])
def orderOk (ops : List Oper) : Bool := backward ops || (backAny ops && ranked .text ops && ranked .gc ops)
def regionOk (mode : FuncId → List Bool) (hd : Hint) (ops : List Oper) : Bool :=
  orderOk ops && allPairs (fun i j => (preds ops j).contains i || (match ops[i]?, ops[j]? with | some a, some b => indep mode hd ops i j a b | _, _ => false)) ops.length
/-- The objects that an operand leads to, by what stands in the slots ahead of the region. -/
noncomputable def rootsGo (ops : List Oper) (s : St) : Nat → Operand → Option (List Nat)
  | 0, _ => none
  | n + 1, .tmp t => (match ops.find? (fun o => match o.dst with | some d => Nat.beq d t | none => false) with
    | some o => (match o.op with
      | .fieldAddr _ x _ => rootsGo ops s n x
      | .indexAddr _ x _ => rootsGo ops s n x
      | .nilCheck x => rootsGo ops s n x
      | .move x => rootsGo ops s n x
      | .load _ x => (match rootsGo ops s n x with | some l => some (l.flatMap fun i => (s.ob i).refs) | none => none)
      | .binOp .. => some []
      | .unOp .. => some []
      | _ => none)
    | none => some (s.slot t).refsF)
  | _, _ => some []
noncomputable def rootsAll (ops : List Oper) (s : St) : List Operand → Option (List Nat)
  | [] => some []
  | x :: r => (match rootsGo ops s 8 x, rootsAll ops s r with
    | some a, some b => some (a ++ b)
    | _, _ => none)
noncomputable def wrOf (ops : List Oper) (s : St) (j : Nat) : Option (List Nat) := match ops[j]? with
  | some o => (match o.op with
    | .store _ x _ => rootsGo ops s 8 x
    | .mapUpdate _ x _ _ => rootsGo ops s 8 x
    | .call c => (match c.callee with
      | .value f => (match rootsAll ops s (f :: c.args.toList) with | some l => some (reach s.ob l) | none => none)
      | _ => none)
    | _ => none)
  | none => none
noncomputable def hintOf (mode : FuncId → List Bool) (ops : List Oper) (s : St) : Hint := {
  hide := fun j => (List.range ops.length).flatMap fun k => (match Nat.beq j k || (preds ops j).contains k || (preds ops k).contains j || !((ops[k]?).map (loud mode)).getD false with
    | true => []
    | false => (match wrOf ops s k with | some l => l | none => []))
  wr := wrOf ops s }

noncomputable def hintAt (E : Env) (b : Bool) (ops : List Oper) (s : St) : Hint := match b with | true => hintOf E.mode ops s | false => noHint

/-- The state with what is kept alone, and named anew. -/
noncomputable def canonIds (keep : List Nat) (m : Nat) (s : St) : List Nat := reach s.ob (List.range m ++ keep.flatMap fun k => (s.slot k).refsF)
noncomputable def canonV (keep : List Nat) (m : Nat) (s : St) : List V := keep.map fun k => reV s.ob (genC m) (canonIds keep m s) (s.slot k)
noncomputable def canonO (keep : List Nat) (m : Nat) (s : St) : List Ob := reO s.ob (genC m) (canonIds keep m s)
def mkSt (keep : List Nat) (vs : List V) (os : List Ob) : St := ⟨ofList .top (keep.zip vs), hOf os, os.length⟩

def loopKey : Code → Nat
  | .region id _ _ => id
  | .seq .skip b => loopKey b
  | .seq a _ => loopKey a
  | .block _ b => loopKey b
  | .loop b => loopKey b
  | .scope b => loopKey b
  | .cond _ a _ => loopKey a
  | _ => 0

/-- The key of what is run from a label on. -/
def gotoKey (l : Nat) (rest : Code) : Nat := 4096 + 64 * loopKey rest + l
/-- A round's parameters. -/
def setPs (s : Nat → V) : List Nat → List V → Nat → V
  | p :: ps, v :: vs => setPs (upd s p v) ps vs
  | _, _ => s

noncomputable def exec (E : Env) (m : Nat) : Code → St → Tr (Ex × St)
  | .skip, s => .ret (.normal, s)
  | .region id ops draw, s => (match draw && E.dyn id && !regionOk E.mode (hintAt E (draw && E.dyn id) ops.toList s) ops.toList with
    | true => .fail
    | false => (stepOps E draw (hintAt E (draw && E.dyn id) ops.toList s) ops.toList s.next (List.range ops.toList.length) s).bind fun x => match x with
      | .go s' => .ret (.normal, { s' with next := s.next + 64 * ops.toList.length })
      | .pan v s' => .ret (.panic v, { s' with next := s.next + 64 * ops.toList.length }))
  | .seq a b, s => (exec E m a s).bind fun x => match x.1 with
    | .normal => exec E m b x.2
    | e => .ret (e, x.2)
  | .cond c t e, s => (match ev E s.slot c with
    | .bool b => .ite b (exec E m t (match c with | .tmp d => { s with slot := upd s.slot d (.bool true) } | _ => s)) (exec E m e (match c with | .tmp d => { s with slot := upd s.slot d (.bool false) } | _ => s))
    | _ => .fail)
  | .block id b, s => (exec E m b s).bind fun x => match x.1 with
    | .exit i => (match Nat.beq i id with | true => .ret (.normal, x.2) | false => .ret (.exit i, x.2))
    | e => .ret (e, x.2)
  | .loop b, s => (E.L m (loopKey b) (canonV (E.keep (loopKey b)) m s) (canonO (E.keep (loopKey b)) m s)).bind fun r => .ret (r.1, mkSt (E.keepX (loopKey b)) r.2.1 r.2.2)
  | .exit id, s => .ret (.exit id, s)
  | .label _, s => .ret (.normal, s)
  | .scope b, s => (exec E m b s).bind fun x => match x.1 with
    | .goto l => (match findLabel b l with
      | some rest => (E.L m (gotoKey l rest) (canonV (E.keep (gotoKey l rest)) m x.2) (canonO (E.keep (gotoKey l rest)) m x.2)).bind fun r => .ret (r.1, mkSt (E.keepX (gotoKey l rest)) r.2.1 r.2.2)
      | none => .fail)
    | e => .ret (e, x.2)
  | .rangeFunc g _ assign _, s => (match ev E s.slot g with
    | .clo f [] caps => (match V.refsLF caps with
      | [] => (match E.it f caps with
        | some items => (E.L m (loopKey assign) (.tup items :: canonV (E.keep (loopKey assign)) m s) (canonO (E.keep (loopKey assign)) m s)).bind fun r => .ret (r.1, mkSt (E.keep (loopKey assign)) r.2.1 r.2.2)
        | none => .fail)
      | _ => .fail)
    | _ => .fail)
  | .ret, s => .ret (.ret, s)
  | .goto l, s => .ret (.goto l, s)
  | _, _ => .fail

noncomputable def resOf (E : Env) (s : St) : ResultVar → Option V
  | .tmp t => some (s.slot t)
  | .cell t ty => match cellsAt E.ty s.ob (s.slot t) with
    | some cs => (match (E.ty ty).ok && Nat.ble (E.ty ty).size cs.length with | true => (match (E.ty ty).agg with | true => some (.agg (cs.take (E.ty ty).size)) | false => cs.head?) | false => none)
    | none => none
def allSome {α : Type} : List (Option α) → Option (List α)
  | [] => some []
  | some a :: r => (allSome r).map (a :: ·)
  | none :: _ => none

/-- A function's result: frozen (as trees), or with the objects that it refers to. -/
noncomputable def exportIds (m : Nat) (s : St) (l : List Nat) : List Nat := reach s.ob (List.range m ++ l)
noncomputable def leave (E : Env) (m : Nat) (own : Bool) (s : St) (v : V) : Tr Out := match own with
  | true => .ret (.ret (reV s.ob (genE m) (exportIds m s v.refsF) v) (reO s.ob (genE m) (exportIds m s v.refsF)))
  | false => (match apart s.ob (exportIds m s []) (reach s.ob v.refsF) with
    | true => .ret (.ret (toTree E.ty s.ob treeFuel v) (reO s.ob (genE m) (exportIds m s [])))
    | false => .fail)
noncomputable def leaveP (m : Nat) (s : St) (v : V) : Tr Out := .ret (.panic v (reO s.ob (genE m) (exportIds m s [])))
noncomputable def finish (E : Env) (m : Nat) (own : Bool) (f : Func) (s : St) : Tr Out :=
  match allSome (f.results.toList.map (resOf E s)) with
  | some vs => leave E m own s (match vs with | [v] => v | vs => .tup vs)
  | none => .fail

def begin0 (args : List V) (objs : List Ob) : St := ⟨hOfV args, hOf objs, objs.length⟩
where hOfV : List V → Nat → V
  | [], _ => .top
  | v :: _, 0 => v
  | _ :: r, n + 1 => hOfV r n
noncomputable def runF (E : Env) (own : Bool) (f : Func) (args : List V) (objs : List Ob) : Tr Out :=
  match f.body with
  | some c => (exec E objs.length c (begin0 args objs)).bind fun x => match x.1 with
    | .normal => finish E objs.length own f x.2
    | .ret => finish E objs.length own f x.2
    | .panic v => leaveP objs.length x.2 v
    | _ => .fail
  | none => .fail
/-- One round of a loop, and what comes behind it. -/
noncomputable def loopStep (E : Env) (m : Nat) (key : Nat) (b : Code) (vs : List V) (os : List Ob) : Tr (Ex × List V × List Ob) :=
  (exec E m b (mkSt (E.keep key) vs os)).bind fun x => match x.1 with
    | .normal => .ret (.normal, canonV (E.keep key) m x.2, canonO (E.keep key) m x.2)
    | e => .ret (e, canonV (E.keepX key) m x.2, canonO (E.keepX key) m x.2)
/-- One pass from a label on. -/
noncomputable def gotoStep (E : Env) (m : Nat) (key : Nat) (rest : Code) (vs : List V) (os : List Ob) : Tr (Ex × List V × List Ob) :=
  (exec E m rest (mkSt (E.keep key) vs os)).bind fun x => match x.1 with
    | .goto l => .ret (.goto l, canonV (E.keep key) m x.2, canonO (E.keep key) m x.2)
    | e => .ret (e, canonV (E.keepX key) m x.2, canonO (E.keepX key) m x.2)
/-- One round of a range over a function. -/
noncomputable def rangeStep (E : Env) (m : Nat) (ps : List Nat) (assign body : Code) (x : V) (vs : List V) (os : List Ob) : Tr (Ex × List V × List Ob) :=
  match x with
  | .tup xs => (match Nat.beq xs.length ps.length && os.all (fun o => Nat.beq o.gen 0) && Nat.ble m os.length with
    | true => (exec E os.length assign ⟨setPs (mkSt (E.keep (loopKey assign)) vs os).slot ps xs, hOf os, os.length⟩).bind fun x1 => match x1.1 with
      | .normal => (exec E os.length body x1.2).bind fun x2 => match x2.1 with
        | .panic _ => .fail
        | .goto _ => .fail
        | e => .ret (e, canonV (E.keep (loopKey assign)) m ⟨(mkSt (E.keep (loopKey assign)) vs os).slot, x2.2.ob, x2.2.next⟩, canonO (E.keep (loopKey assign)) m ⟨(mkSt (E.keep (loopKey assign)) vs os).slot, x2.2.ob, x2.2.next⟩)
      | _ => .fail
    | false => .fail)
  | _ => .fail
end Go.AH

namespace Go.AH
open Go Go.RowKit

def noR : V → Value → Prop := fun _ _ => False
/-- The cells from a place on. -/
def Lies (w : World) (b o : Nat) (cs : List Value) : Prop := ∀ (j : Nat) (u : Value), cs[j]? = some u → w.cell? ⟨b, o + j, none⟩ = some u
def mkVal (a : Bool) (cs : List Value) : Value := match a with | true => .agg cs.toArray | false => cs.headD undef
def isAggV : V → Bool | .agg _ => true | _ => false

/-- A map's keys and elements have their types' forms. -/
def DictOk (T : TypeId → Ty) (t : TypeId) (ks vs : List V) : Prop := ∀ kt et, (T t).d = .map kt et → (∀ k ∈ ks, isFormT (T kt) k = true) ∧ (∀ v ∈ vs, isFormT (T et) v = true ∧ etaT (T et) v = v)
mutual
def Rep (T : TypeId → Ty) (w : World) (O : Nat → Prop) : V → (V → Value → Prop) → Value → Prop
  | .top, _, _ => True
  | .bool b, _, x => x = .bool b
  | .int k n, _, x => x = .int k n
  | .str s, _, x => ∃ b : ByteArray, x = .string b ∧ b.data.toList = s
  | .nilp, _, x => x = .pointer none
  | .nilm, _, x => x = .map none
  | .nils, _, x => x = .slice none 0 0
  | .nilf, _, x => x = .nilFunc
  | .nili, _, x => x = .nilIface
  | .agg cs, R, x => ∃ a : Array Value, x = .agg a ∧ RepL T w O cs R a.toList
  | .tup cs, R, x => ∃ a : Array Value, x = .tuple a ∧ RepL T w O cs R a.toList
  | .seq t vs, _, x => ∃ a cap, x = .slice a vs.length cap ∧ vs.length ≤ cap ∧ (vs = [] ∨ ∃ b o, a = some ⟨b, o, none⟩ ∧ b < w.heap.size ∧ ¬ O b ∧ RepSeq T w O vs t b o)
  | .fix t vs, _, x => ∃ a, x = .slice a vs.length vs.length ∧ (vs = [] ∨ ∃ b o, a = some ⟨b, o, none⟩ ∧ b < w.heap.size ∧ ¬ O b ∧ RepSeq T w O vs t b o)
  | .pref cs, _, x => ∃ b o l, x = .pointer (some ⟨b, o, none⟩) ∧ b < w.heap.size ∧ ¬ O b ∧ Lies w b o l ∧ RepL T w O cs noR l
  | .dict t ks vs, _, x => ∃ (r : Nat) (es : Array MapEntry) (clk : Nat), x = .map (some r) ∧ r < w.heap.size ∧ ¬ O r ∧ w.heap[r]? = some (.map es clk) ∧ DictOk T t ks vs ∧ RepL T w O ks noR (es.toList.map (·.key)) ∧ RepL T w O vs noR (es.toList.map (·.val))
  | .clo f a b, R, x => ∃ p q : Array Value, x = .func (.func f) p q ∧ RepL T w O a R p.toList ∧ RepL T w O b R q.toList
  | .iface t v, R, x => ∃ y, x = .iface t y ∧ Rep T w O v R y
  | .box i j, R, x => R (.box i j) x
  | .full t i g n, R, x => R (.full t i g n) x
  | .sub t i g o n, R, x => R (.sub t i g o n) x
  | .elt i g k j, R, x => R (.elt i g k j) x
  | .mref i, R, x => R (.mref i) x
  | .bsl t i n, R, x => R (.bsl t i n) x
  | .itr i, R, x => R (.itr i) x
def RepL (T : TypeId → Ty) (w : World) (O : Nat → Prop) : List V → (V → Value → Prop) → List Value → Prop
  | [], _, l => l = []
  | v :: vs, R, l => ∃ x r, l = x :: r ∧ Rep T w O v R x ∧ RepL T w O vs R r
def RepSeq (T : TypeId → Ty) (w : World) (O : Nat → Prop) : List V → TypeId → Nat → Nat → Prop
  | [], _, _, _ => True
  | v :: vs, t, b, o => (isFormT (T t) v = true ∧ etaT (T t) v = v) ∧ (∃ cs : List Value, cs.length = (T t).size ∧ Lies w b o cs ∧ Rep T w O v noR (mkVal (T t).agg cs)) ∧ RepSeq T w O vs t b (o + (T t).size)
end

section
variable {T : TypeId → Ty} {w w' : World} {O O' : Nat → Prop}

/-- The world has kept what is outside O. -/
structure Kept (w w' : World) (O O' : Nat → Prop) : Prop where
  size : w.heap.size ≤ w'.heap.size
  same : ∀ b, b < w.heap.size → ¬ O b → w'.heap[b]? = w.heap[b]?
  own : ∀ b, b < w.heap.size → ¬ O b → ¬ O' b

theorem Lies.kept {b o : Nat} {cs : List Value} (h : Lies w b o cs) (hb : w'.heap[b]? = w.heap[b]?) : Lies w' b o cs := by
  intro j u hj
  rw [World.cell?_of_block (w := w) hb]
  exact h j u hj

mutual
theorem Rep.kept (hk : Kept w w' O O') : ∀ (v : V) (R R' : V → Value → Prop) (x : Value), (∀ r y, R r y → R' r y) → Rep T w O v R x → Rep T w' O' v R' x
  | .top, _, _, _, _, _ => trivial
  | .bool _, _, _, _, _, h => h
  | .int _ _, _, _, _, _, h => h
  | .str _, _, _, _, _, h => h
  | .nilp, _, _, _, _, h => h
  | .nilm, _, _, _, _, h => h
  | .nils, _, _, _, _, h => h
  | .nilf, _, _, _, _, h => h
  | .nili, _, _, _, _, h => h
  | .agg cs, R, R', _, hR, h => by
    obtain ⟨a, rfl, h⟩ := h
    exact ⟨a, rfl, RepL.kept hk cs R R' _ hR h⟩
  | .tup cs, R, R', _, hR, h => by
    obtain ⟨a, rfl, h⟩ := h
    exact ⟨a, rfl, RepL.kept hk cs R R' _ hR h⟩
  | .seq t vs, _, _, _, _, h => by
    obtain ⟨a, cap, rfl, hc, h⟩ := h
    refine ⟨a, cap, rfl, hc, ?_⟩
    rcases h with h | ⟨b, o, rfl, h1, h2, h3⟩
    · exact .inl h
    · exact .inr ⟨b, o, rfl, Nat.lt_of_lt_of_le h1 hk.size, hk.own b h1 h2, RepSeq.kept hk vs t b o (hk.same b h1 h2) h3⟩
  | .fix t vs, _, _, _, _, h => by
    obtain ⟨a, rfl, h⟩ := h
    refine ⟨a, rfl, ?_⟩
    rcases h with h | ⟨b, o, rfl, h1, h2, h3⟩
    · exact .inl h
    · exact .inr ⟨b, o, rfl, Nat.lt_of_lt_of_le h1 hk.size, hk.own b h1 h2, RepSeq.kept hk vs t b o (hk.same b h1 h2) h3⟩
  | .pref cs, _, _, _, _, h => by
    obtain ⟨b, o, l, rfl, h1, h2, h3, h4⟩ := h
    exact ⟨b, o, l, rfl, Nat.lt_of_lt_of_le h1 hk.size, hk.own b h1 h2, h3.kept (hk.same b h1 h2), RepL.kept hk cs _ _ _ (fun _ _ h => h) h4⟩
  | .dict t ks vs, _, _, _, _, h => by
    obtain ⟨r, es, clk, rfl, h1, h2, h3, hd, h4, h5⟩ := h
    exact ⟨r, es, clk, rfl, Nat.lt_of_lt_of_le h1 hk.size, hk.own r h1 h2, (hk.same r h1 h2).trans h3, hd, RepL.kept hk ks _ _ _ (fun _ _ h => h) h4, RepL.kept hk vs _ _ _ (fun _ _ h => h) h5⟩
  | .clo f a b, R, R', _, hR, h => by
    obtain ⟨p, q, rfl, h1, h2⟩ := h
    exact ⟨p, q, rfl, RepL.kept hk a R R' _ hR h1, RepL.kept hk b R R' _ hR h2⟩
  | .iface t v, R, R', _, hR, h => by
    obtain ⟨y, rfl, h⟩ := h
    exact ⟨y, rfl, Rep.kept hk v R R' _ hR h⟩
  | .box .., _, _, _, hR, h => hR _ _ h
  | .full .., _, _, _, hR, h => hR _ _ h
  | .sub .., _, _, _, hR, h => hR _ _ h
  | .elt .., _, _, _, hR, h => hR _ _ h
  | .mref .., _, _, _, hR, h => hR _ _ h
  | .bsl .., _, _, _, hR, h => hR _ _ h
  | .itr .., _, _, _, hR, h => hR _ _ h
theorem RepL.kept (hk : Kept w w' O O') : ∀ (vs : List V) (R R' : V → Value → Prop) (l : List Value), (∀ r y, R r y → R' r y) → RepL T w O vs R l → RepL T w' O' vs R' l
  | [], _, _, _, _, h => h
  | v :: vs, R, R', _, hR, h => by
    obtain ⟨x, r, rfl, h1, h2⟩ := h
    exact ⟨x, r, rfl, Rep.kept hk v R R' x hR h1, RepL.kept hk vs R R' r hR h2⟩
theorem RepSeq.kept (hk : Kept w w' O O') : ∀ (vs : List V) (t b o : Nat), w'.heap[b]? = w.heap[b]? → RepSeq T w O vs t b o → RepSeq T w' O' vs t b o
  | [], _, _, _, _, _ => trivial
  | v :: vs, t, b, o, hb, h => by
    obtain ⟨h1, ⟨cs, h2, h3, h4⟩, h5⟩ := h
    exact ⟨h1, ⟨cs, h2, h3.kept hb, Rep.kept hk v _ _ _ (fun _ _ h => h) h4⟩, RepSeq.kept hk vs t b _ hb h5⟩
end

/- References renamed. -/
mutual
theorem Rep.mapRef {φ : V → V} : ∀ (v : V) (R R' : V → Value → Prop) (x : Value), (∀ r y, R r y → Rep T w O (φ r) R' y) → Rep T w O v R x → Rep T w O (v.mapRef φ) R' x
  | .top, _, _, _, _, _ => by simp [V.mapRef, Rep]
  | .bool _, _, _, _, _, h => by simpa [V.mapRef, Rep] using h
  | .int _ _, _, _, _, _, h => by simpa [V.mapRef, Rep] using h
  | .str _, _, _, _, _, h => by simpa [V.mapRef, Rep] using h
  | .nilp, _, _, _, _, h => by simpa [V.mapRef, Rep] using h
  | .nilm, _, _, _, _, h => by simpa [V.mapRef, Rep] using h
  | .nils, _, _, _, _, h => by simpa [V.mapRef, Rep] using h
  | .nilf, _, _, _, _, h => by simpa [V.mapRef, Rep] using h
  | .nili, _, _, _, _, h => by simpa [V.mapRef, Rep] using h
  | .agg cs, R, R', _, hR, h => by
    obtain ⟨a, rfl, h⟩ := h
    rw [V.mapRef]
    exact ⟨a, rfl, RepL.mapRef cs R R' _ hR h⟩
  | .tup cs, R, R', _, hR, h => by
    obtain ⟨a, rfl, h⟩ := h
    rw [V.mapRef]
    exact ⟨a, rfl, RepL.mapRef cs R R' _ hR h⟩
  | .seq t vs, _, _, _, _, h => by simpa [V.mapRef, Rep] using h
  | .fix t vs, _, _, _, _, h => by simpa [V.mapRef, Rep] using h
  | .pref cs, _, _, _, _, h => by simpa [V.mapRef, Rep] using h
  | .dict t ks vs, _, _, _, _, h => by simpa [V.mapRef, Rep] using h
  | .clo f a b, R, R', _, hR, h => by
    obtain ⟨p, q, rfl, h1, h2⟩ := h
    rw [V.mapRef]
    exact ⟨p, q, rfl, RepL.mapRef a R R' _ hR h1, RepL.mapRef b R R' _ hR h2⟩
  | .iface t v, R, R', _, hR, h => by
    obtain ⟨y, rfl, h⟩ := h
    rw [V.mapRef]
    exact ⟨y, rfl, Rep.mapRef v R R' _ hR h⟩
  | .box .., _, _, _, hR, h => by rw [V.mapRef]; exact hR _ _ h
  | .full .., _, _, _, hR, h => by rw [V.mapRef]; exact hR _ _ h
  | .sub .., _, _, _, hR, h => by rw [V.mapRef]; exact hR _ _ h
  | .elt .., _, _, _, hR, h => by rw [V.mapRef]; exact hR _ _ h
  | .mref .., _, _, _, hR, h => by rw [V.mapRef]; exact hR _ _ h
  | .bsl .., _, _, _, hR, h => by rw [V.mapRef]; exact hR _ _ h
  | .itr .., _, _, _, hR, h => by rw [V.mapRef]; exact hR _ _ h
theorem RepL.mapRef {φ : V → V} : ∀ (vs : List V) (R R' : V → Value → Prop) (l : List Value), (∀ r y, R r y → Rep T w O (φ r) R' y) → RepL T w O vs R l → RepL T w O (V.mapRefs φ vs) R' l
  | [], _, _, _, _, h => by simpa [V.mapRefs, RepL] using h
  | v :: vs, R, R', _, hR, h => by
    obtain ⟨x, r, rfl, h1, h2⟩ := h
    rw [V.mapRefs]
    exact ⟨x, r, rfl, Rep.mapRef v R R' x hR h1, RepL.mapRef vs R R' r hR h2⟩
end

mutual
/-- A value is also what it is where fewer references are known, if its own are. -/
theorem Rep.refs : ∀ (v : V) (R R' : V → Value → Prop) (x : Value), (∀ r y, (∀ i ∈ r.refs, i ∈ v.refs) → R r y → R' r y) → Rep T w O v R x → Rep T w O v R' x
  | .top, _, _, _, _, _ => trivial
  | .bool _, _, _, _, _, h => h
  | .int _ _, _, _, _, _, h => h
  | .str _, _, _, _, _, h => h
  | .nilp, _, _, _, _, h => h
  | .nilm, _, _, _, _, h => h
  | .nils, _, _, _, _, h => h
  | .nilf, _, _, _, _, h => h
  | .nili, _, _, _, _, h => h
  | .agg cs, R, R', _, hR, h => by
    obtain ⟨a, rfl, h⟩ := h
    exact ⟨a, rfl, RepL.refs cs R R' _ (fun r y h => hR r y (fun i hi => by rw [V.refs]; exact h i hi)) h⟩
  | .tup cs, R, R', _, hR, h => by
    obtain ⟨a, rfl, h⟩ := h
    exact ⟨a, rfl, RepL.refs cs R R' _ (fun r y h => hR r y (fun i hi => by rw [V.refs]; exact h i hi)) h⟩
  | .seq t vs, _, _, _, _, h => h
  | .fix t vs, _, _, _, _, h => h
  | .pref cs, _, _, _, _, h => h
  | .dict t ks vs, _, _, _, _, h => h
  | .clo f a b, R, R', _, hR, h => by
    obtain ⟨p, q, rfl, h1, h2⟩ := h
    exact ⟨p, q, rfl, RepL.refs a R R' _ (fun r y h => hR r y (fun i hi => by rw [V.refs]; exact List.mem_append.2 (.inl (h i hi)))) h1, RepL.refs b R R' _ (fun r y h => hR r y (fun i hi => by rw [V.refs]; exact List.mem_append.2 (.inr (h i hi)))) h2⟩
  | .iface t v, R, R', _, hR, h => by
    obtain ⟨y, rfl, h⟩ := h
    exact ⟨y, rfl, Rep.refs v R R' _ (fun r y h => hR r y (fun i hi => by rw [V.refs]; exact h i hi)) h⟩
  | .box .., _, _, _, hR, h => hR _ _ (fun _ h => h) h
  | .full .., _, _, _, hR, h => hR _ _ (fun _ h => h) h
  | .sub .., _, _, _, hR, h => hR _ _ (fun _ h => h) h
  | .elt .., _, _, _, hR, h => hR _ _ (fun _ h => h) h
  | .mref .., _, _, _, hR, h => hR _ _ (fun _ h => h) h
  | .bsl .., _, _, _, hR, h => hR _ _ (fun _ h => h) h
  | .itr .., _, _, _, hR, h => hR _ _ (fun _ h => h) h
theorem RepL.refs : ∀ (vs : List V) (R R' : V → Value → Prop) (l : List Value), (∀ r y, (∀ i ∈ r.refs, i ∈ V.refsL vs) → R r y → R' r y) → RepL T w O vs R l → RepL T w O vs R' l
  | [], _, _, _, _, h => h
  | v :: vs, R, R', _, hR, h => by
    obtain ⟨x, r, rfl, h1, h2⟩ := h
    exact ⟨x, r, rfl, Rep.refs v R R' x (fun r y h => hR r y (fun i hi => by rw [V.refsL]; exact List.mem_append.2 (.inl (h i hi)))) h1, RepL.refs vs R R' r (fun r y h => hR r y (fun i hi => by rw [V.refsL]; exact List.mem_append.2 (.inr (h i hi)))) h2⟩
end

mutual
/-- A flat value looks at no memory. -/
theorem Rep.flat : ∀ (v : V) (R : V → Value → Prop) (x : Value), v.flat = true → Rep T w O v R x → Rep T w' O' v R x
  | .top, _, _, _, _ => trivial
  | .bool _, _, _, _, h => h
  | .int _ _, _, _, _, h => h
  | .str _, _, _, _, h => h
  | .nilp, _, _, _, h => h
  | .nilm, _, _, _, h => h
  | .nils, _, _, _, h => h
  | .nilf, _, _, _, h => h
  | .nili, _, _, _, h => h
  | .agg cs, R, _, hf, h => by
    obtain ⟨a, rfl, h⟩ := h
    rw [V.flat] at hf
    exact ⟨a, rfl, RepL.flat cs R _ hf h⟩
  | .tup cs, R, _, hf, h => by
    obtain ⟨a, rfl, h⟩ := h
    rw [V.flat] at hf
    exact ⟨a, rfl, RepL.flat cs R _ hf h⟩
  | .seq t vs, _, _, hf, _ => by simp [V.flat] at hf
  | .fix t vs, _, _, hf, _ => by simp [V.flat] at hf
  | .pref cs, _, _, hf, _ => by simp [V.flat] at hf
  | .dict t ks vs, _, _, hf, _ => by simp [V.flat] at hf
  | .clo f a b, R, _, hf, h => by
    obtain ⟨p, q, rfl, h1, h2⟩ := h
    rw [V.flat, Bool.and_eq_true] at hf
    exact ⟨p, q, rfl, RepL.flat a R _ hf.1 h1, RepL.flat b R _ hf.2 h2⟩
  | .iface t v, R, _, hf, h => by
    obtain ⟨y, rfl, h⟩ := h
    rw [V.flat] at hf
    exact ⟨y, rfl, Rep.flat v R _ hf h⟩
  | .box .., _, _, _, h => h
  | .full .., _, _, _, h => h
  | .sub .., _, _, _, h => h
  | .elt .., _, _, _, h => h
  | .mref .., _, _, _, h => h
  | .bsl .., _, _, _, h => h
  | .itr .., _, _, _, h => h
theorem RepL.flat : ∀ (vs : List V) (R : V → Value → Prop) (l : List Value), V.flatL vs = true → RepL T w O vs R l → RepL T w' O' vs R l
  | [], _, _, _, h => h
  | v :: vs, R, _, hf, h => by
    obtain ⟨x, r, rfl, h1, h2⟩ := h
    rw [V.flatL, Bool.and_eq_true] at hf
    exact ⟨x, r, rfl, Rep.flat v R x hf.1 h1, RepL.flat vs R r hf.2 h2⟩
end

theorem Rep.noRef {v : V} {R R' : V → Value → Prop} {x : Value} (h : Rep T w O v R x) (hn : v.noRef = true) (hR : ∀ r y, R r y → r.refs ≠ []) : Rep T w O v R' x := by
  refine Rep.refs v R R' x (fun r y hi hr => ?_) h
  have he : v.refs = [] := by simpa [V.noRef] using hn
  cases hq : r.refs with
  | nil => exact absurd hq (hR r y hr)
  | cons i l =>
    have := hi i (by rw [hq]; simp)
    rw [he] at this
    cases this

theorem RepL.length {vs : List V} {R : V → Value → Prop} : ∀ {l : List Value}, RepL T w O vs R l → l.length = vs.length := by
  induction vs with
  | nil => intro l h; rw [show l = [] from h]; rfl
  | cons v vs ih => intro l h; obtain ⟨x, r, rfl, _, h2⟩ := h; simp [ih h2]
theorem mapRefs_len {φ : V → V} : ∀ (vs : List V), (V.mapRefs φ vs).length = vs.length
  | [] => by simp [V.mapRefs]
  | v :: vs => by rw [V.mapRefs, List.length_cons, List.length_cons, mapRefs_len vs]
theorem RepL.takeAll {vs : List V} {R : V → Value → Prop} {l : List Value} (h : RepL T w O vs R l) : RepL T w O vs R (l.take vs.length) := by
  rw [List.take_of_length_le (by rw [h.length]; exact Nat.le_refl _)]
  exact h
theorem RepL.append {R : V → Value → Prop} : ∀ {vs us : List V} {l m : List Value}, RepL T w O vs R l → RepL T w O us R m → RepL T w O (vs ++ us) R (l ++ m)
  | [], _, _, _, h, k => by rw [h]; exact k
  | v :: vs, us, _, m, h, k => by
    obtain ⟨x, r, rfl, h1, h2⟩ := h
    exact ⟨x, r ++ m, rfl, h1, RepL.append h2 k⟩
theorem RepL.drop {R : V → Value → Prop} : ∀ {vs : List V} {l : List Value} (n : Nat), RepL T w O vs R l → RepL T w O (vs.drop n) R (l.drop n)
  | _, _, 0, h => by simpa using h
  | [], _, n + 1, h => by rw [h]; exact rfl
  | v :: vs, _, n + 1, h => by
    obtain ⟨x, r, rfl, _, h2⟩ := h
    exact RepL.drop n h2
theorem RepL.take {R : V → Value → Prop} : ∀ {vs : List V} {l : List Value} (n : Nat), RepL T w O vs R l → RepL T w O (vs.take n) R (l.take n)
  | _, _, 0, _ => rfl
  | [], _, n + 1, h => by rw [h]; exact rfl
  | v :: vs, _, n + 1, h => by
    obtain ⟨x, r, rfl, h1, h2⟩ := h
    exact ⟨x, r.take n, rfl, h1, RepL.take n h2⟩
theorem RepL.get {R : V → Value → Prop} : ∀ {vs : List V} {l : List Value} (n : Nat) (v : V), RepL T w O vs R l → vs[n]? = some v → ∃ x, l[n]? = some x ∧ Rep T w O v R x
  | [], _, _, _, _, hv => by simp at hv
  | u :: vs, _, 0, v, h, hv => by
    obtain ⟨x, r, rfl, h1, _⟩ := h
    simp at hv
    subst hv
    exact ⟨x, rfl, h1⟩
  | u :: vs, _, n + 1, v, h, hv => by
    obtain ⟨x, r, rfl, _, h2⟩ := h
    obtain ⟨y, h3, h4⟩ := RepL.get n v h2 (by simpa using hv)
    exact ⟨y, by simpa using h3, h4⟩
theorem RepL.of_all {R : V → Value → Prop} : ∀ {vs : List V} {l : List Value}, l.length = vs.length → (∀ (n : Nat) (v : V) (x : Value), vs[n]? = some v → l[n]? = some x → Rep T w O v R x) → RepL T w O vs R l
  | [], l, h, _ => by
    have : l = [] := by simpa using h
    exact this
  | v :: vs, [], h, _ => by simp at h
  | v :: vs, x :: r, h, hall => ⟨x, r, rfl, hall 0 v x rfl rfl, RepL.of_all (by simpa using h) (fun n u y h1 h2 => hall (n + 1) u y (by simpa using h1) (by simpa using h2))⟩

/- Forms. -/
theorem Rep.eta {k : Kd} {v : V} {R : V → Value → Prop} {x : Value} (h : Rep T w O v R x) (hf : isForm k v = true) : Rep T w O (eta k v) R x := by
  cases k <;> cases v <;> simp [isForm] at hf <;> first
    | exact h
    | (have h : x = .slice none 0 0 := h; subst h; exact ⟨none, 0, rfl, Nat.le_refl _, .inl rfl⟩)
    | (subst hf; exact h)
    | (rename_i e e' vs
       rcases hf with hf | hf
       · subst hf; exact h
       · subst hf; exact h)
theorem RepL.etaL {R : V → Value → Prop} : ∀ {ks : List Kd} {cs : List V} {l : List Value} {j : Nat} {v : V}, RepL T w O cs R l → isFormL ks cs = true → (∀ i, v.cell (j + i) = cs.getD i .top) → RepL T w O (etaL ks j v) R l
  | [], [], _, _, _, h, _, _ => h
  | [], _ :: _, _, _, _, _, hf, _ => by simp [isFormL] at hf
  | _ :: _, [], _, _, _, _, hf, _ => by simp [isFormL] at hf
  | k :: ks, c :: cs, _, j, v, h, hf, hv => by
    obtain ⟨x, r, rfl, h1, h2⟩ := h
    rw [isFormL, Bool.and_eq_true] at hf
    have h0 := hv 0
    rw [Nat.add_zero, List.getD_cons_zero] at h0
    refine ⟨x, r, rfl, ?_, RepL.etaL (j := j + 1) h2 hf.2 (fun i => ?_)⟩
    · rw [h0]; exact h1.eta hf.1
    · have := hv (i + 1)
      rw [List.getD_cons_succ] at this
      rw [← this]
      congr 1
      omega
theorem Rep.etaT {ty : Ty} {v : V} {R : V → Value → Prop} {x : Value} (h : Rep T w O v R x) (hf : isFormT ty v = true) : Rep T w O (AH.etaT ty v) R x := by
  obtain ⟨size, agg, bytes, kinds, d⟩ := ty
  cases agg with
  | true =>
    cases v <;> simp [isFormT] at hf
    rename_i cs
    obtain ⟨a, rfl, h⟩ := h
    exact ⟨a, rfl, RepL.etaL h hf (fun i => by simp [V.cell, V.cells])⟩
  | false =>
    match kinds, hf with
    | [k], hf => exact h.eta hf
    | [], hf => simp [isFormT] at hf
    | _ :: _ :: _, hf => simp [isFormT] at hf
theorem eta_eta (k : Kd) (v : V) : eta k (eta k v) = eta k v := by cases k <;> cases v <;> rfl
theorem etaL_len : ∀ (ks : List Kd) (j : Nat) (v : V), (etaL ks j v).length = ks.length
  | [], _, _ => rfl
  | _ :: ks, j, v => by simp [etaL, etaL_len ks]
theorem etaL_get : ∀ (ks : List Kd) (j : Nat) (v : V) (i : Nat) (k : Kd), ks[i]? = some k → (etaL ks j v)[i]? = some (eta k (v.cell (j + i)))
  | [], _, _, _, _, h => by simp at h
  | k :: ks, j, v, 0, k', h => by
    simp at h; subst h; simp [etaL]
  | k :: ks, j, v, i + 1, k', h => by
    simp at h
    simp only [etaL, List.getElem?_cons_succ]
    rw [etaL_get ks (j + 1) v i k' h]
    congr 3
    omega
theorem etaL_ext : ∀ (ks : List Kd) (j j' : Nat) (v v' : V), (∀ i k, ks[i]? = some k → eta k (v.cell (j + i)) = eta k (v'.cell (j' + i))) → etaL ks j v = etaL ks j' v'
  | [], _, _, _, _, _ => rfl
  | k :: ks, j, j', v, v', h => by
    have h0 := h 0 k rfl
    rw [Nat.add_zero, Nat.add_zero] at h0
    rw [etaL, etaL, h0]
    congr 1
    refine etaL_ext ks (j + 1) (j' + 1) v v' (fun i k' hk => ?_)
    have := h (i + 1) k' (by simpa using hk)
    rw [show j + 1 + i = j + (i + 1) from by omega, show j' + 1 + i = j' + (i + 1) from by omega]
    exact this
theorem etaT_etaT (ty : Ty) (v : V) : AH.etaT ty (AH.etaT ty v) = AH.etaT ty v := by
  obtain ⟨size, agg, bytes, kinds, d⟩ := ty
  cases agg with
  | true =>
    show V.agg (etaL kinds 0 (.agg (etaL kinds 0 v))) = .agg (etaL kinds 0 v)
    congr 1
    refine etaL_ext _ _ _ _ _ (fun i k hk => ?_)
    rw [Nat.zero_add]
    simp only [V.cell, V.cells]
    rw [List.getD_eq_getElem?_getD, etaL_get _ _ _ i k hk, Nat.zero_add, Option.getD_some]
    exact eta_eta k _
  | false =>
    match kinds with
    | [k] => exact eta_eta k v
    | [] => rfl
    | _ :: _ :: _ => rfl
theorem Rep.one {v : V} {R : V → Value → Prop} {x : Value} (h : Rep T w O v R x) (hs : v.storable = true) (hR : ∀ r y, R r y → y.oneCell' = true) : x.oneCell' = true := by
  cases v <;> simp [V.storable] at hs
  case bool b => rw [show x = _ from h]; rfl
  case int k n => rw [show x = _ from h]; rfl
  case str s => obtain ⟨b, rfl, _⟩ := h; rfl
  case nilp => rw [show x = _ from h]; rfl
  case nilm => rw [show x = _ from h]; rfl
  case nils => rw [show x = _ from h]; rfl
  case fix t vs => obtain ⟨a, rfl, _⟩ := h; rfl
  case nilf => rw [show x = _ from h]; rfl
  case nili => rw [show x = _ from h]; rfl
  case seq t vs => obtain ⟨a, c, rfl, _⟩ := h; rfl
  case pref cs => obtain ⟨b, o, l, rfl, _⟩ := h; rfl
  case dict t ks vs => obtain ⟨r, es, clk, rfl, _⟩ := h; rfl
  case clo f a b => obtain ⟨p, q, rfl, _⟩ := h; rfl
  case iface t v => obtain ⟨y, rfl, _⟩ := h; rfl
  all_goals exact hR _ _ h
theorem form_storable {k : Kd} {v : V} (h : isForm k v = true) : v.storable = true := by
  cases k <;> cases v <;> simp [isForm] at h <;> rfl
theorem eta_form {k : Kd} {v : V} (h : isForm k v = true) : isForm k (eta k v) = true := by
  cases k <;> cases v <;> simp_all [isForm, eta]
theorem eta_noRef {k : Kd} {v : V} (h : isForm k v = true) (hn : v.noRef = true) : (eta k v).noRef = true := by
  cases k <;> cases v <;> simp_all [isForm, eta, V.noRef, V.refs]
end
end Go.AH

namespace Go.AH
open Go Go.RowKit

def zeroVal : Kd → Value
  | .bool => .bool false | .int k => .int k 0 | .str => .string ⟨#[]⟩ | .seq _ => .slice none 0 0 | .ptr => .pointer none | .map => .map none | .func => .nilFunc | .iface => .nilIface | .oth => undef
def isZero : Kd → Value → Bool
  | .bool, .bool b => !b
  | .int k, .int k' n => decide (k = k') && decide (n = 0)
  | .str, .string s => s.data.toList.isEmpty
  | .seq _, .slice none 0 0 => true
  | .ptr, .pointer none => true
  | .map, .map none => true
  | .func, .nilFunc => true
  | .iface, .nilIface => true
  | _, _ => false
def isZeroL : List Kd → List Value → Bool
  | [], [] => true
  | k :: ks, v :: vs => isZero k v && isZeroL ks vs
  | _, _ => false
def aggB (P : Program) (t : TypeId) : Bool := match P.underlying t with | some (.struct _) => true | some (.array ..) => true | _ => false
def basicB (P : Program) (t : TypeId) : Option Kd := match P.underlying t with | some .bool => some .bool | some (.int k) => some (.int k) | some .string => some .str | _ => none
/-- The kinds of a struct's fields, if each is a number, a truth value or a string. -/
def basics (P : Program) (off : Nat) : List Field → Option (List Kd)
  | [] => some []
  | f :: r => match basicB P f.type with
    | some k => if f.name ≠ "_" ∧ f.offset = off then (basics P (off + 1) r).map (k :: ·) else none
    | none => none
def descB (P : Program) (t : TypeId) (ty : Ty) : Bool := match P.underlying t, ty.d with
  | some (.struct fs), .struct gs => ty.agg && decide (gs = fs.toList.map fun f => (f.offset, P.cellsOf f.type, aggB P f.type)) && fs.toList.all (fun f => (P.info? f.type).isSome && (P.underlying f.type).isSome && decide (P.cellsOf f.type ≠ 0))
      && (!ty.eq || (decide (basics P 0 fs.toList = some ty.kinds) && !P.stoodInHeld t && !P.eqGuardType P.depth t))
  | some (.slice e), .slice e' => !ty.agg && decide (e = e')
  | some (.array n e), .array n' e' => ty.agg && !ty.eq && decide (n = n') && decide (e = e') && decide (P.cellsOf e ≠ 0) && (P.info? e).isSome && decide (2 ≤ n)
  | some (.map k e), .map k' e' => !ty.agg && decide (k = k') && decide (e = e')
  | some (.pointer e), .ptr e' => !ty.agg && decide (e = e')
  | some .string, .str => !ty.agg && decide (ty.kinds = [.str])
  | some (.int k), .int k' => !ty.agg && decide (k = k') && decide (ty.kinds = [.int k])
  | some .bool, .bool => !ty.agg && decide (ty.kinds = [.bool])
  | some (.func ..), .func => !ty.agg
  | some (.interface _), .iface => !ty.agg
  | _, _ => false
def rowB (P : Program) (t : TypeId) (ty : Ty) : Bool := match P.info? t with
  | none => false
  | some i => decide (i.size = ty.size) && decide (i.bytes = ty.bytes) && decide (0 < ty.size ∧ ty.size ≤ 256) && decide (ty.bytes ≤ 32768) && decide (ty.kinds.length = ty.size) && descB P t ty
      && (match i.zero with
        | some (.agg z) => ty.agg && isZeroL ty.kinds z.toList
        | some z => !ty.agg && isZeroL ty.kinds [z]
        | none => false)
/-- A table of the program's types. -/
def TyOk (P : Program) (T : TypeId → Ty) : Prop := ∀ t, (T t).ok = true → rowB P t (T t) = true

section
variable {P : Program} {T : TypeId → Ty} {t : TypeId}

structure Row (P : Program) (t : TypeId) (ty : Ty) : Prop where
  info : ∃ i z, P.info? t = some i ∧ i.size = ty.size ∧ i.bytes = ty.bytes ∧ i.zero = some z ∧ isZeroL ty.kinds z.cells.toList = true ∧ (ty.agg = true → ∃ a, z = .agg a) ∧ (ty.agg = false → z.cells = #[z])
  pos : 0 < ty.size
  small : ty.size ≤ 256
  bytes : ty.bytes ≤ 32768
  len : ty.kinds.length = ty.size
  desc : descB P t ty = true

theorem Row.of (h : rowB P t (T t) = true) : Row P t (T t) := by
  unfold rowB at h
  cases hi : P.info? t with
  | none => rw [hi] at h; cases h
  | some i =>
    rw [hi] at h
    simp only [Bool.and_eq_true, decide_eq_true_eq] at h
    obtain ⟨⟨⟨⟨⟨⟨h1, h2⟩, h3⟩, h4⟩, h5⟩, h6⟩, h7⟩ := h
    refine ⟨?_, h3.1, h3.2, h4, h5, h6⟩
    split at h7
    · rename_i z hz
      rw [Bool.and_eq_true] at h7
      exact ⟨i, .agg z, hi, h1, h2, hz, h7.2, fun _ => ⟨z, rfl⟩, fun h => by rw [h] at h7; simp at h7⟩
    · rename_i z hn hz
      rw [Bool.and_eq_true, Bool.not_eq_true'] at h7
      have hc : z.cells = #[z] := by cases z <;> first | rfl | (exact absurd rfl (hn _))
      exact ⟨i, z, hi, h1, h2, hz, by rw [hc]; exact h7.2, fun h => by rw [h] at h7; simp at h7, fun _ => hc⟩
    · cases h7
theorem TyOk.row (hT : TyOk P T) (h : (T t).ok = true) : Row P t (T t) := .of (hT t h)

theorem Row.size {ty : Ty} (h : Row P t ty) (w : World) : (sizeOf t).run P w = .ok ty.size w := by
  obtain ⟨i, z, hi, hs, _⟩ := h.info
  simp [sizeOf, typeInfo, hi, hs]
theorem Row.cellsOf {ty : Ty} (h : Row P t ty) : P.cellsOf t = ty.size := by
  obtain ⟨i, z, hi, hs, _⟩ := h.info
  simp [Program.cellsOf, hi, hs]
theorem Row.agg {ty : Ty} (h : Row P t ty) (w : World) : (isAgg t).run P w = .ok ty.agg w := by
  have hd := h.desc
  unfold descB at hd
  split at hd
  all_goals first
    | (exact absurd hd (by decide))
    | (rename_i hu hq
       simp only [Bool.and_eq_true, Bool.not_eq_true'] at hd
       simp [isAgg, run_underlying hu, hd])
theorem Row.zero {ty : Ty} (h : Row P t ty) (w : World) : ∃ z, (zeroValue t).run P w = .ok z w ∧ isZeroL ty.kinds z.cells.toList = true ∧ (ty.agg = true → ∃ a, z = .agg a) ∧ (ty.agg = false → z.cells = #[z]) := by
  obtain ⟨i, z, hi, _, _, hz, h1, h2, h3⟩ := h.info
  exact ⟨z, by simp [zeroValue, typeInfo, hi, hz], h1, h2, h3⟩
theorem Row.slice {ty : Ty} {e : TypeId} (h : Row P t ty) (hd : ty.d = .slice e) : P.underlying t = some (.slice e) ∧ ty.agg = false := by
  have := h.desc
  unfold descB at this
  split at this <;> rename_i hu hq <;> simp_all
theorem Row.struct {ty : Ty} {gs : List (Nat × Nat × Bool)} (h : Row P t ty) (hd : ty.d = .struct gs) : ∃ fs, P.underlying t = some (.struct fs) ∧ gs = (fs.toList.map fun f => (f.offset, P.cellsOf f.type, aggB P f.type)) ∧ ty.agg = true ∧
    (∀ f ∈ fs.toList, (P.info? f.type).isSome = true ∧ (P.underlying f.type).isSome = true ∧ P.cellsOf f.type ≠ 0) ∧ (ty.eq = true → basics P 0 fs.toList = some ty.kinds ∧ P.stoodInHeld t = false ∧ P.eqGuardType P.depth t = false) := by
  have h0 := h.desc
  unfold descB at h0
  split at h0 <;> rename_i hu hq <;> first | (exact absurd h0 (by decide)) | skip
  all_goals (rw [hd] at hq; simp at hq)
  subst hq
  simp only [Bool.and_eq_true, Bool.or_eq_true, Bool.not_eq_true', decide_eq_true_eq, List.all_eq_true, ne_eq] at h0
  obtain ⟨⟨⟨h1, h2⟩, h3⟩, h4⟩ := h0
  refine ⟨_, hu, h2, h1, fun f hf => ⟨(h3 f hf).1.1, (h3 f hf).1.2, (h3 f hf).2⟩, fun he => ?_⟩
  rcases h4 with h4 | h4
  · rw [he] at h4; cases h4
  · exact ⟨h4.1.1, h4.1.2, h4.2⟩
theorem Row.array {ty : Ty} {n : Nat} {e : TypeId} (h : Row P t ty) (hd : ty.d = .array n e) : P.underlying t = some (.array n e) ∧ ty.agg = true ∧ P.cellsOf e ≠ 0 ∧ (P.info? e).isSome = true ∧ 2 ≤ n := by
  have h0 := h.desc
  unfold descB at h0
  split at h0 <;> rename_i hu hq <;> first | (exact absurd h0 (by decide)) | skip
  all_goals (rw [hd] at hq; simp at hq)
  obtain ⟨rfl, rfl⟩ := hq
  simp only [Bool.and_eq_true, Bool.not_eq_true', decide_eq_true_eq, ne_eq] at h0
  obtain ⟨⟨⟨⟨⟨⟨h1, h2⟩, rfl⟩, rfl⟩, h5⟩, h6⟩, h7⟩ := h0
  exact ⟨hu, h1, h5, h6, h7⟩
theorem Row.map {ty : Ty} {k e : TypeId} (h : Row P t ty) (hd : ty.d = .map k e) : P.underlying t = some (.map k e) := by
  have := h.desc
  unfold descB at this
  split at this <;> rename_i hu hq <;> simp_all
theorem Row.ptr {ty : Ty} {e : TypeId} (h : Row P t ty) (hd : ty.d = .ptr e) : P.underlying t = some (.pointer e) := by
  have := h.desc
  unfold descB at this
  split at this <;> rename_i hu hq <;> simp_all
theorem Row.str {ty : Ty} (h : Row P t ty) (hd : ty.d = .str) : P.underlying t = some .string ∧ ty.agg = false ∧ ty.kinds = [.str] := by
  have := h.desc
  unfold descB at this
  split at this <;> rename_i hu hq <;> simp_all
theorem Row.int {ty : Ty} {k : IntKind} (h : Row P t ty) (hd : ty.d = .int k) : P.underlying t = some (.int k) ∧ ty.agg = false ∧ ty.kinds = [.int k] := by
  have := h.desc
  unfold descB at this
  split at this <;> rename_i hu hq <;> simp_all
theorem Row.bool {ty : Ty} (h : Row P t ty) (hd : ty.d = .bool) : P.underlying t = some .bool ∧ ty.agg = false ∧ ty.kinds = [.bool] := by
  have := h.desc
  unfold descB at this
  split at this <;> rename_i hu hq <;> simp_all
theorem Row.func {ty : Ty} (h : Row P t ty) (hd : ty.d = .func) : ∃ a b c, P.underlying t = some (.func a b c) := by
  have := h.desc
  unfold descB at this
  split at this <;> rename_i hu hq <;> simp_all
theorem Row.ifc {ty : Ty} (h : Row P t ty) (hd : ty.d = .iface) : ∃ ms, P.underlying t = some (.interface ms) := by
  have := h.desc
  unfold descB at this
  split at this <;> rename_i hu hq <;> simp_all
theorem Row.under {ty : Ty} (h : Row P t ty) : (P.underlying t).isSome = true := by
  have := h.desc
  unfold descB at this
  split at this <;> rename_i hu hq <;> simp_all

theorem Row.one {ty : Ty} (h : Row P t ty) (ha : ty.agg = false) : ty.size = 1 ∧ ∃ k, ty.kinds = [k] := by
  obtain ⟨i, z, _, _, _, _, h1, _, h3⟩ := h.info
  rw [h3 ha] at h1
  have hl := h.len
  match hk : ty.kinds, h1 with
  | [k], _ => rw [hk] at hl; exact ⟨by simpa using hl.symm, k, rfl⟩
  | [], h1 => simp [isZeroL] at h1
  | _ :: _ :: _, h1 => simp [isZeroL] at h1
variable {w : World} {O : Nat → Prop}
theorem Rep.zeroK {k : Kd} {v : Value} {R : V → Value → Prop} (h : isZero k v = true) : Rep T w O (zeroK k) R v := by
  cases k <;> cases v <;> first | (simp [isZero] at h; done) | skip
  case bool b => simp [isZero] at h; subst h; rfl
  case int k k' n => simp [isZero] at h; obtain ⟨rfl, rfl⟩ := h; rfl
  case str s => exact ⟨s, rfl, by simpa [isZero] using h⟩
  case seq e a n c =>
    cases a <;> cases n <;> cases c <;> first | (simp [isZero] at h; done) | skip
    exact ⟨none, 0, rfl, Nat.le_refl _, .inl rfl⟩
  case ptr a => cases a <;> first | (simp [isZero] at h; done) | rfl
  case map a => cases a <;> first | (simp [isZero] at h; done) | rfl
  case func => rfl
  case iface => rfl
theorem RepL.zeroK {R : V → Value → Prop} : ∀ {ks : List Kd} {l : List Value}, isZeroL ks l = true → RepL T w O (ks.map AH.zeroK) R l
  | [], [], _ => rfl
  | [], _ :: _, h => by simp [isZeroL] at h
  | _ :: _, [], h => by simp [isZeroL] at h
  | k :: ks, x :: l, h => by
    rw [isZeroL, Bool.and_eq_true] at h
    exact ⟨x, l, rfl, Rep.zeroK h.1, RepL.zeroK h.2⟩
theorem Rep.zeroKB {k : Kd} {v : Value} {R : V → Value → Prop} (h : isZero k v = true) : Rep T w O (AH.zeroKB k) R v := by
  cases k with
  | seq e =>
    cases v <;> first | (simp [isZero] at h; done) | skip
    rename_i a n c
    cases a <;> cases n <;> cases c <;> first | (simp [isZero] at h; done) | skip
    rfl
  | _ => exact Rep.zeroK h
theorem RepL.zeroKB {R : V → Value → Prop} : ∀ {ks : List Kd} {l : List Value}, isZeroL ks l = true → RepL T w O (ks.map AH.zeroKB) R l
  | [], [], _ => rfl
  | [], _ :: _, h => by simp [isZeroL] at h
  | _ :: _, [], h => by simp [isZeroL] at h
  | k :: ks, x :: l, h => by
    rw [isZeroL, Bool.and_eq_true] at h
    exact ⟨x, l, rfl, Rep.zeroKB h.1, RepL.zeroKB h.2⟩
theorem isZeroL_len : ∀ {ks : List Kd} {l : List Value}, isZeroL ks l = true → l.length = ks.length
  | [], [], _ => rfl
  | [], _ :: _, h => by simp [isZeroL] at h
  | _ :: _, [], h => by simp [isZeroL] at h
  | k :: ks, x :: l, h => by
    rw [isZeroL, Bool.and_eq_true] at h
    simp [isZeroL_len h.2]
theorem Row.rep_zero {ty : Ty} (h : Row P t ty) (w' : World) (R : V → Value → Prop) : ∃ z, (zeroValue t).run P w' = .ok z w' ∧ Rep T w O (zeroT ty) R z ∧ RepL T w O (zeroT ty).cells R z.cells.toList ∧ z.cells.size = ty.size := by
  obtain ⟨z, hr, hz, h1, h2⟩ := h.zero w'
  have hl := isZeroL_len hz
  have hrep := RepL.zeroK (T := T) (w := w) (O := O) (R := R) hz
  have hlen := h.len
  obtain ⟨size, agg, bytes, kinds, d, eq⟩ := ty
  cases agg with
  | true =>
    obtain ⟨a, rfl⟩ := h1 rfl
    exact ⟨_, hr, ⟨a, rfl, hrep⟩, hrep, by simpa [Value.cells, hlen] using hl⟩
  | false =>
    have hc := h2 rfl
    rw [hc] at hz hl hrep
    match kinds, hz, hl with
    | [k], hz, _ =>
      rw [isZeroL, Bool.and_eq_true] at hz
      refine ⟨z, hr, Rep.zeroK hz.1, ?_, ?_⟩
      · rw [hc]
        have : (AH.zeroT ⟨size, false, bytes, [k], d, eq⟩).cells = [AH.zeroK k] := by cases k <;> rfl
        rw [this]
        exact hrep
      · rw [hc]; simpa using hlen
    | [], _, hl => simp at hl
    | _ :: _ :: _, _, hl => simp at hl
theorem Row.rep_zeroB {ty : Ty} (h : Row P t ty) (w' : World) (R : V → Value → Prop) : ∃ z, (zeroValue t).run P w' = .ok z w' ∧ Rep T w O (zeroB ty) R z ∧ RepL T w O (zeroB ty).cells R z.cells.toList ∧ z.cells.size = ty.size := by
  obtain ⟨z, hr, hz, h1, h2⟩ := h.zero w'
  have hl := isZeroL_len hz
  have hrep := RepL.zeroKB (T := T) (w := w) (O := O) (R := R) hz
  have hlen := h.len
  obtain ⟨size, agg, bytes, kinds, d, eq⟩ := ty
  cases agg with
  | true =>
    obtain ⟨a, rfl⟩ := h1 rfl
    exact ⟨_, hr, ⟨a, rfl, hrep⟩, hrep, by simpa [Value.cells, hlen] using hl⟩
  | false =>
    have hc := h2 rfl
    rw [hc] at hz hl hrep
    match kinds, hz, hl with
    | [k], hz, _ =>
      rw [isZeroL, Bool.and_eq_true] at hz
      refine ⟨z, hr, Rep.zeroKB hz.1, ?_, ?_⟩
      · rw [hc]
        have : (AH.zeroB ⟨size, false, bytes, [k], d, eq⟩).cells = [AH.zeroKB k] := by cases k <;> rfl
        rw [this]
        exact hrep
      · rw [hc]; simpa using hlen
    | [], _, hl => simp at hl
    | _ :: _ :: _, _, hl => simp at hl
theorem isForm_zeroK {k : Kd} {v : Value} (h : isZero k v = true) : isForm k (AH.zeroK k) = true ∧ eta k (AH.zeroK k) = AH.zeroK k := by
  cases k <;> first | (refine ⟨?_, rfl⟩; simp [isForm, AH.zeroK]; done) | (cases v <;> simp [isZero] at h)
theorem isFormL_zeroK : ∀ {ks : List Kd} {l : List Value}, isZeroL ks l = true → isFormL ks (ks.map AH.zeroK) = true
  | [], [], _ => rfl
  | [], _ :: _, h => by simp [isZeroL] at h
  | _ :: _, [], h => by simp [isZeroL] at h
  | k :: ks, x :: l, h => by
    rw [isZeroL, Bool.and_eq_true] at h
    simp only [List.map_cons, isFormL, Bool.and_eq_true]
    exact ⟨(isForm_zeroK h.1).1, isFormL_zeroK h.2⟩
theorem etaL_self : ∀ {ks : List Kd} {cs : List V} {j : Nat} {v : V}, cs.length = ks.length → (∀ i : Nat, v.cell (j + i) = cs.getD i .top) → (∀ (i : Nat) (k : Kd) (c : V), ks[i]? = some k → cs[i]? = some c → eta k c = c) → etaL ks j v = cs
  | [], [], _, _, _, _, _ => rfl
  | [], _ :: _, _, _, h, _, _ => by simp at h
  | _ :: _, [], _, _, h, _, _ => by simp at h
  | k :: ks, c :: cs, j, v, h, hv, he => by
    have h0 := hv 0
    rw [Nat.add_zero, List.getD_cons_zero] at h0
    rw [etaL, h0, he 0 k c rfl rfl, etaL_self (cs := cs) (by simpa using h) (fun i => ?_) (fun i k' c' h1 h2 => he (i + 1) k' c' (by simpa using h1) (by simpa using h2))]
    have := hv (i + 1)
    rw [List.getD_cons_succ] at this
    rw [← this]
    congr 1
    omega
theorem Row.form_zero {ty : Ty} (h : Row P t ty) : isFormT ty (zeroT ty) = true ∧ etaT ty (zeroT ty) = zeroT ty := by
  obtain ⟨i, z, _, _, _, _, hz, _, h3⟩ := h.info
  have ho := fun ha => h.one ha
  obtain ⟨size, agg, bytes, kinds, d, eq⟩ := ty
  cases agg with
  | true =>
    refine ⟨isFormL_zeroK hz, ?_⟩
    show V.agg (etaL kinds 0 (.agg (kinds.map zeroK))) = .agg (kinds.map zeroK)
    rw [etaL_self (cs := kinds.map zeroK) (by simp) (fun i => by simp [V.cell, V.cells])]
    intro i k c h1 h2
    rw [List.getElem?_map, h1] at h2
    simp at h2
    subst h2
    have hlen := isZeroL_len hz
    have : ∀ (ks : List Kd) (l : List Value) (i : Nat) (k : Kd), isZeroL ks l = true → ks[i]? = some k → ∃ x, isZero k x = true := by
      intro ks
      induction ks with
      | nil => intro l i k _ h; simp at h
      | cons a ks ih =>
        intro l i k hl hk
        cases l with
        | nil => simp [isZeroL] at hl
        | cons x l =>
          rw [isZeroL, Bool.and_eq_true] at hl
          cases i with
          | zero => simp at hk; subst hk; exact ⟨x, hl.1⟩
          | succ i => exact ih l i k hl.2 (by simpa using hk)
    obtain ⟨x, hx⟩ := this kinds _ i k hz h1
    exact (isForm_zeroK hx).2
  | false =>
    obtain ⟨_, k, hk⟩ := ho rfl
    simp only at hk
    subst hk
    rw [h3 rfl] at hz
    rw [show (#[z] : Array Value).toList = [z] from rfl, isZeroL, Bool.and_eq_true] at hz
    exact isForm_zeroK hz.1
theorem mkVal_rep {ty : Ty} (h : Row P t ty) {v : V} {R : V → Value → Prop} {cs : List Value} (hf : isFormT ty v = true) (hl : cs.length = ty.size) (hr : Rep T w O v R (mkVal ty.agg cs)) : RepL T w O v.cells R cs := by
  have ho := fun ha => h.one ha
  obtain ⟨size, agg, bytes, kinds, d, eq⟩ := ty
  cases agg with
  | true =>
    cases v <;> simp [isFormT] at hf
    obtain ⟨a, ha, h1⟩ := hr
    simp only [mkVal, Value.agg.injEq] at ha
    subst ha
    exact h1
  | false =>
    obtain ⟨h1, k, hk⟩ := ho rfl
    simp only at h1 hk hl
    subst hk
    rw [h1] at hl
    match cs, hl with
    | [c], _ =>
      have hv : v.cells = [v] := by
        cases v <;> first | rfl | (cases k <;> simp [isFormT, isForm] at hf)
      rw [hv]
      exact ⟨c, [], rfl, hr, rfl⟩
theorem rep_mkVal {ty : Ty} (h : Row P t ty) {v : V} {R : V → Value → Prop} {cs : List Value} (hf : isFormT ty v = true) (hr : RepL T w O v.cells R cs) : Rep T w O v R (mkVal ty.agg cs) ∧ cs.length = ty.size := by
  have ho := fun ha => h.one ha
  have hlen := h.len
  have hL := hr.length
  obtain ⟨size, agg, bytes, kinds, d, eq⟩ := ty
  cases agg with
  | true =>
    cases v <;> simp [isFormT] at hf
    rename_i l
    refine ⟨⟨cs.toArray, rfl, hr⟩, ?_⟩
    have : ∀ (ks : List Kd) (l : List V), isFormL ks l = true → l.length = ks.length := by
      intro ks
      induction ks with
      | nil => intro l h; cases l <;> simp [isFormL] at h ⊢
      | cons k ks ih => intro l h; cases l <;> simp [isFormL] at h ⊢; exact ih _ h.2
    simp only [V.cells] at hL
    rw [hL, this kinds l hf]
    exact hlen
  | false =>
    obtain ⟨h1, k, hk⟩ := ho rfl
    simp only at h1 hk
    subst hk
    have hv : v.cells = [v] := by
      cases v <;> first | rfl | (cases k <;> simp [isFormT, isForm] at hf)
    rw [hv] at hr
    obtain ⟨c, r, rfl, h2, h3⟩ := hr
    rw [show r = [] from h3]
    exact ⟨h2, by simp [h1]⟩
theorem RepSeq.get : ∀ {vs : List V} {t b o k : Nat} {v : V}, RepSeq T w O vs t b o → vs[k]? = some v →
    isFormT (T t) v = true ∧ etaT (T t) v = v ∧ ∃ cs : List Value, cs.length = (T t).size ∧ Lies w b (o + k * (T t).size) cs ∧ Rep T w O v noR (mkVal (T t).agg cs)
  | [], _, _, _, _, _, _, h => by simp at h
  | u :: vs, t, b, o, 0, v, h, hv => by
    simp at hv
    subst hv
    obtain ⟨⟨h1, h2⟩, ⟨cs, h3, h4, h5⟩, _⟩ := h
    exact ⟨h1, h2, cs, h3, by simpa using h4, h5⟩
  | u :: vs, t, b, o, k + 1, v, h, hv => by
    obtain ⟨_, _, h6⟩ := h
    obtain ⟨h1, h2, cs, h3, h4, h5⟩ := RepSeq.get h6 (by simpa using hv)
    exact ⟨h1, h2, cs, h3, by rw [Nat.succ_mul]; rw [show o + (k * (T t).size + (T t).size) = o + (T t).size + k * (T t).size from by omega]; exact h4, h5⟩
end
end Go.AH

namespace Go.AH
open Go Go.RowKit

structure Loc where
  b : Nat
  cap : Nat
  nil : Bool
  off : Nat
  deriving Inhabited
def Loc.addr (l : Loc) : Option Addr := match l.nil with | true => none | false => some ⟨l.b, l.off, none⟩

/-- A slice of n elements, wherever it lies. -/
def SliceLike (n : Nat) (x : Value) : Prop := ∃ a c, x = .slice a n c ∧ n ≤ c ∧ (n ≠ 0 → ∃ b o, a = some ⟨b, o, none⟩)
def RefRep (T : TypeId → Ty) (h : Nat → Ob) (β : Nat → Loc) : V → Value → Prop
  | .box i j, x => (∃ ro cs, h i = .box ro cs) ∧ x = .pointer (some ⟨(β i).b, j, none⟩)
  | .full t i g n, x => ∃ ro g' t' vs, h i = .row ro g' t' vs ∧ g ≤ g' ∧ SliceLike n x ∧ (g = g' → t' = t ∧ n = vs.length ∧ x = .slice (β i).addr n (β i).cap)
  | .sub t i g o n, x => ∃ ro g' t' vs, h i = .row ro g' t' vs ∧ g ≤ g' ∧ SliceLike n x ∧ (g = g' → t' = t ∧ o + n ≤ vs.length ∧ ∃ a, x = .slice a n ((β i).cap - o) ∧ ((β i).cap - o ≠ 0 → a = some ⟨(β i).b, (β i).off + o * (T t).size, none⟩))
  | .elt i g k j, x => ∃ ro g' t vs, h i = .row ro g' t vs ∧ g ≤ g' ∧ (∃ b o, x = .pointer (some ⟨b, o, none⟩)) ∧ (g = g' → k < vs.length ∧ x = .pointer (some ⟨(β i).b, (β i).off + (k * (T t).size + j), none⟩))
  | .mref i, x => (∃ ro t ks vs, h i = .dict ro t ks vs) ∧ x = .map (some (β i).b)
  | .itr i, x => (∃ ro s k, h i = .sit ro s k) ∧ x = .pointer (some ⟨(β i).b, 0, none⟩)
  | .bsl _ i n, x => (∃ ro cs, h i = .box ro cs) ∧ ∃ cap, n ≤ cap ∧ x = .slice (some ⟨(β i).b, 0, none⟩) n cap
  | _, _ => False
theorem RefRep.refs {T : TypeId → Ty} {h : Nat → Ob} {β : Nat → Loc} {r : V} {y : Value} (hr : RefRep T h β r y) : r.refs ≠ [] := by
  cases r <;> first | exact hr.elim | simp [V.refs]

def ObRep (T : TypeId → Ty) (w : World) (O : Nat → Prop) (R : V → Value → Prop) (l : Loc) : Ob → Prop
  | .dead => True
  | .box _ cs => l.nil = false ∧ ∃ arr e, w.heap[l.b]? = some (.cells arr e (0, 0)) ∧ RepL T w O cs R (arr.toList.take cs.length)
  | .sit _ s k => l.nil = false ∧ ∃ b : ByteArray, b.data.toList = s ∧ w.heap[l.b]? = some (.stringIter b k)
  | .row _ _ t vs => (T t).ok = true ∧ ((l.nil = true ∧ vs = [] ∧ l.cap = 0) ∨
      (l.nil = false ∧ ∃ cur, w.heap[l.b]? = some (.cells cur t (0, 0)) ∧ vs.length ≤ l.cap ∧ l.cap ≤ maxLen ∧ cur.size = l.off + l.cap * (T t).size ∧ RepSeq T w O vs t l.b l.off))
  | .dict _ t ks vs => l.nil = false ∧ DictOk T t ks vs ∧ ∃ es clk, w.heap[l.b]? = some (.map es clk) ∧ RepL T w O ks noR (es.toList.map (·.key)) ∧ RepL T w O vs noR (es.toList.map (·.val))
theorem ObRep.lt {T : TypeId → Ty} {w : World} {O : Nat → Prop} {R : V → Value → Prop} {l : Loc} {o : Ob} (h : ObRep T w O R l o) (ha : o.alive = true) (hn : l.nil = false) : l.b < w.heap.size := by
  cases o with
  | dead => cases ha
  | box ro cs => obtain ⟨_, arr, e, h, _⟩ := h; exact (Array.getElem?_eq_some_iff.1 h).1
  | row ro g t vs =>
    obtain ⟨_, h | ⟨_, cur, h, _⟩⟩ := h
    · rw [hn] at h; cases h.1
    · exact (Array.getElem?_eq_some_iff.1 h).1
  | dict ro t ks vs => obtain ⟨_, _, es, clk, h, _⟩ := h; exact (Array.getElem?_eq_some_iff.1 h).1
  | sit ro s k => obtain ⟨_, _, _, h⟩ := h; exact (Array.getElem?_eq_some_iff.1 h).1
theorem ObRep.kept {T : TypeId → Ty} {w w' : World} {O O' : Nat → Prop} {R R' : V → Value → Prop} {l : Loc} {o : Ob} (hk : Kept w w' O O') (hR : ∀ r y, R r y → R' r y) (hb : l.nil = false → w'.heap[l.b]? = w.heap[l.b]?) (h : ObRep T w O R l o) : ObRep T w' O' R' l o := by
  cases o with
  | dead => trivial
  | box ro cs =>
    obtain ⟨hn, arr, e, h1, h2⟩ := h
    exact ⟨hn, arr, e, (hb hn).trans h1, RepL.kept hk cs R R' _ hR h2⟩
  | row ro g t vs =>
    obtain ⟨ht, h | ⟨hn, cur, h1, h2, h3, h4, h5⟩⟩ := h
    · exact ⟨ht, .inl h⟩
    · exact ⟨ht, .inr ⟨hn, cur, (hb hn).trans h1, h2, h3, h4, RepSeq.kept hk vs t _ _ (hb hn) h5⟩⟩
  | sit ro s k =>
    obtain ⟨hn, b, hb2, h1⟩ := h
    exact ⟨hn, b, hb2, (hb hn).trans h1⟩
  | dict ro t ks vs =>
    obtain ⟨hn, hd, es, clk, h1, h2, h3⟩ := h
    exact ⟨hn, hd, es, clk, (hb hn).trans h1, RepL.kept hk ks _ _ _ (fun _ _ h => h) h2, RepL.kept hk vs _ _ _ (fun _ _ h => h) h3⟩

/-- The object's block may be written. -/
def Mine (h : Nat → Ob) (β : Nat → Loc) (i : Nat) : Prop := (h i).rw = true ∧ (β i).nil = false
/-- The blocks that are not to be looked at by trees: those of others, and those that may be written. -/
def Own (Z : Nat → Prop) (h : Nat → Ob) (β : Nat → Loc) (b : Nat) : Prop := Z b ∨ ∃ i, Mine h β i ∧ (β i).b = b
theorem Ob.rw_alive {o : Ob} (h : o.rw = true) : o.alive = true := by cases o <;> first | rfl | cases h

structure Cx (T : TypeId → Ty) (G : Nat → V) (Z : Nat → Prop) (h : Nat → Ob) (β : Nat → Loc) (w : World) : Prop where
  ob : ∀ i, ObRep T w (Own Z h β) (RefRep T h β) (β i) (h i)
  ro : ∀ i, (h i).alive = true → (h i).rw = false → (β i).nil = false → ¬ Own Z h β (β i).b
  inj : ∀ i j, i ≠ j → Mine h β i → Mine h β j → (β i).b ≠ (β j).b
  zlt : ∀ b, Z b → b < w.heap.size
  zown : ∀ i, Mine h β i → ¬ Z (β i).b
  glob : ∀ g, Rep T w (Own Z h β) (G g) noR (.pointer (some ⟨g, 0, none⟩))

def Hd : Ob → Loc → Ob → Loc → Prop
  | .dead, _, _, _ => True
  | .box _ _, l, o', l' => (∃ ro cs', o' = .box ro cs') ∧ l'.b = l.b
  | .row _ g t vs, l, o', l' => ∃ ro g' t' vs', o' = .row ro g' t' vs' ∧ g ≤ g' ∧ (g = g' → t' = t ∧ vs'.length = vs.length ∧ l' = l)
  | .dict .., l, o', l' => (∃ ro t ks vs, o' = .dict ro t ks vs) ∧ l'.b = l.b
  | .sit .., l, o', l' => (∃ ro s k, o' = .sit ro s k) ∧ l'.b = l.b
theorem Hd.refl (o : Ob) (l : Loc) : Hd o l o l := by
  cases o with
  | dead => trivial
  | box ro cs => exact ⟨⟨_, _, rfl⟩, rfl⟩
  | row ro g t vs => exact ⟨_, _, _, _, rfl, Nat.le_refl _, fun _ => ⟨rfl, rfl, rfl⟩⟩
  | dict ro t ks vs => exact ⟨⟨_, _, _, _, rfl⟩, rfl⟩
  | sit ro s k => exact ⟨⟨_, _, _, rfl⟩, rfl⟩
theorem Hd.trans {a b c : Ob} {l m n : Loc} (h1 : Hd a l b m) (h2 : Hd b m c n) : Hd a l c n := by
  cases a with
  | dead => trivial
  | box ro cs =>
    obtain ⟨⟨_, _, rfl⟩, e1⟩ := h1
    obtain ⟨h3, e2⟩ := h2
    exact ⟨h3, e2.trans e1⟩
  | row ro g t vs =>
    obtain ⟨_, g1, t1, vs1, rfl, hg, hq⟩ := h1
    obtain ⟨ro2, g2, t2, vs2, rfl, hg2, hq2⟩ := h2
    refine ⟨_, _, _, _, rfl, Nat.le_trans hg hg2, fun he => ?_⟩
    obtain ⟨e1, e2, e3⟩ := hq (by omega)
    obtain ⟨f1, f2, f3⟩ := hq2 (by omega)
    exact ⟨f1.trans e1, f2.trans e2, f3.trans e3⟩
  | dict ro t ks vs =>
    obtain ⟨⟨_, _, _, _, rfl⟩, e1⟩ := h1
    obtain ⟨h3, e2⟩ := h2
    exact ⟨h3, e2.trans e1⟩
  | sit ro s k =>
    obtain ⟨⟨_, _, _, rfl⟩, e1⟩ := h1
    obtain ⟨h3, e2⟩ := h2
    exact ⟨h3, e2.trans e1⟩

/-- What a step may do: the writable blocks of the small heap alone have changed. -/
structure Stp (h : Nat → Ob) (β : Nat → Loc) (w : World) (h' : Nat → Ob) (β' : Nat → Loc) (w' : World) : Prop where
  os : w'.os = w.os
  tape : w'.tape = w.tape
  output : w'.output = w.output
  size : w.heap.size ≤ w'.heap.size
  frame : ∀ b, b < w.heap.size → (∀ i, Mine h β i → (β i).b ≠ b) → w'.heap[b]? = w.heap[b]?
  fresh : ∀ i, Mine h' β' i → (∃ k, Mine h β k ∧ (β k).b = (β' i).b) ∨ w.heap.size ≤ (β' i).b
  hd : ∀ i, Hd (h i) (β i) (h' i) (β' i)

section
variable {T : TypeId → Ty} {G : Nat → V} {Z : Nat → Prop} {h h' h'' : Nat → Ob} {β β' β'' : Nat → Loc} {w w' w'' : World}

theorem refs_of_hd (hh : ∀ i, Hd (h i) (β i) (h' i) (β' i)) {r : V} {y : Value} (hr : RefRep T h β r y) : RefRep T h' β' r y := by
  cases r with
  | box i j =>
    obtain ⟨⟨ro, cs, e⟩, rfl⟩ := hr
    have := hh i
    rw [e] at this
    obtain ⟨⟨ro', cs', e'⟩, hb⟩ := this
    exact ⟨⟨ro', cs', e'⟩, by rw [hb]⟩
  | full tt i g n =>
    obtain ⟨ro, g', t, vs, e, hg, hsl, hx⟩ := hr
    have := hh i
    rw [e] at this
    obtain ⟨ro', g2, t', vs', e', hg', hq⟩ := this
    refine ⟨ro', g2, t', vs', e', Nat.le_trans hg hg', hsl, fun he => ?_⟩
    have h1 : g = g' := by omega
    obtain ⟨ht, h2, h3⟩ := hq (by omega)
    obtain ⟨h0, h4, h5⟩ := hx h1
    exact ⟨ht.trans h0, by omega, by rw [h3]; exact h5⟩
  | sub tt i g o n =>
    obtain ⟨ro, g', t, vs, e, hg, hsl, hx⟩ := hr
    have := hh i
    rw [e] at this
    obtain ⟨ro', g2, t', vs', e', hg', hq⟩ := this
    refine ⟨ro', g2, t', vs', e', Nat.le_trans hg hg', hsl, fun he => ?_⟩
    have h1 : g = g' := by omega
    obtain ⟨ht, h2, h3⟩ := hq (by omega)
    obtain ⟨h0, h4, a, h5, h6⟩ := hx h1
    exact ⟨ht.trans h0, by omega, a, by rw [h3]; exact h5, by rw [h3]; exact h6⟩
  | elt i g k j =>
    obtain ⟨ro, g', t, vs, e, hg, hp, hx⟩ := hr
    have := hh i
    rw [e] at this
    obtain ⟨ro', g2, t', vs', e', hg', hq⟩ := this
    refine ⟨ro', g2, t', vs', e', Nat.le_trans hg hg', hp, fun he => ?_⟩
    have h1 : g = g' := by omega
    obtain ⟨ht, h2, h3⟩ := hq (by omega)
    obtain ⟨h4, h5⟩ := hx h1
    exact ⟨by omega, by rw [h3, ht]; exact h5⟩
  | mref i =>
    obtain ⟨⟨ro, t, ks, vs, e⟩, rfl⟩ := hr
    have := hh i
    rw [e] at this
    obtain ⟨⟨ro', t', ks', vs', e'⟩, hb⟩ := this
    exact ⟨⟨ro', t', ks', vs', e'⟩, by rw [hb]⟩
  | itr i =>
    obtain ⟨⟨ro, s, k, e⟩, rfl⟩ := hr
    have := hh i
    rw [e] at this
    obtain ⟨⟨ro', s', k', e'⟩, hb⟩ := this
    exact ⟨⟨ro', s', k', e'⟩, by rw [hb]⟩
  | bsl t i n =>
    obtain ⟨⟨ro, cs, e⟩, cap, hc, rfl⟩ := hr
    have := hh i
    rw [e] at this
    obtain ⟨⟨ro', cs', e'⟩, hb⟩ := this
    exact ⟨⟨ro', cs', e'⟩, cap, hc, by rw [hb]⟩
  | _ => exact hr.elim

theorem Stp.refs (s : Stp h β w h' β' w') {r : V} {y : Value} (hr : RefRep T h β r y) : RefRep T h' β' r y := refs_of_hd s.hd hr
theorem Stp.refl : Stp h β w h β w := ⟨rfl, rfl, rfl, Nat.le_refl _, fun _ _ _ => rfl, fun i hi => .inl ⟨i, hi, rfl⟩, fun i => Hd.refl _ _⟩
theorem Stp.trans (a : Stp h β w h' β' w') (b : Stp h' β' w' h'' β'' w'') : Stp h β w h'' β'' w'' := {
  os := b.os.trans a.os
  tape := b.tape.trans a.tape
  output := b.output.trans a.output
  size := Nat.le_trans a.size b.size
  frame := fun k hk hn => (b.frame k (Nat.lt_of_lt_of_le hk a.size) (fun i hi he => by
    rcases a.fresh i hi with ⟨j, hj, e⟩ | e
    · exact hn j hj (e.trans he)
    · omega)).trans (a.frame k hk hn)
  fresh := fun i hi => by
    rcases b.fresh i hi with ⟨j, hj, e⟩ | e
    · rcases a.fresh j hj with ⟨k, hk, e'⟩ | e'
      · exact .inl ⟨k, hk, e'.trans e⟩
      · exact .inr (by rw [← e]; exact e')
    · exact .inr (Nat.le_trans a.size e)
  hd := fun i => (a.hd i).trans (b.hd i) }
theorem Stp.kept (cx : Cx T G Z h β w) (s : Stp h β w h' β' w') : Kept w w' (Own Z h β) (Own Z h' β') := {
  size := s.size
  same := fun b hb hO => s.frame b hb (fun i hi e => hO (.inr ⟨i, hi, e⟩))
  own := fun b hb hO => by
    rintro (hz | ⟨i, hi, e⟩)
    · exact hO (.inl hz)
    · rcases s.fresh i hi with ⟨k, hk, e'⟩ | e'
      · exact hO (.inr ⟨k, hk, e'.trans e⟩)
      · omega }
theorem Stp.rep (cx : Cx T G Z h β w) (s : Stp h β w h' β' w') {v : V} {x : Value} (hr : Rep T w (Own Z h β) v (RefRep T h β) x) : Rep T w' (Own Z h' β') v (RefRep T h' β') x :=
  Rep.kept (s.kept cx) v _ _ x (fun _ _ h => s.refs h) hr

theorem upd_same {α : Type} (f : Nat → α) (i : Nat) (x : α) : upd f i x i = x := by simp [upd]
theorem upd_other {α : Type} (f : Nat → α) {i j : Nat} (x : α) (hne : j ≠ i) : upd f i x j = f j := by
  unfold upd
  have : Nat.beq j i = false := by
    cases hq : Nat.beq j i with
    | true => exact absurd (Nat.eq_of_beq_eq_true hq) hne
    | false => rfl
  rw [this]

/-- One object is made or changed. -/
theorem Cx.update (cx : Cx T G Z h β w) (i : Nat) (o : Ob) (l : Loc)
    (os : w'.os = w.os) (tape : w'.tape = w.tape) (output : w'.output = w.output) (size : w.heap.size ≤ w'.heap.size)
    (frame : ∀ b, b < w.heap.size → (Mine h β i → (β i).b ≠ b) → w'.heap[b]? = w.heap[b]?)
    (hrw : o.rw = true)
    (hl : l.nil = false → (Mine h β i ∧ l.b = (β i).b) ∨ (w.heap.size ≤ l.b ∧ l.b < w'.heap.size))
    (hd : Hd (h i) (β i) o l)
    (hob : Kept w w' (Own Z h β) (Own Z (upd h i o) (upd β i l)) → (∀ r y, RefRep T h β r y → RefRep T (upd h i o) (upd β i l) r y) → ObRep T w' (Own Z (upd h i o) (upd β i l)) (RefRep T (upd h i o) (upd β i l)) l o) :
    Cx T G Z (upd h i o) (upd β i l) w' ∧ Stp h β w (upd h i o) (upd β i l) w' := by
  have hm : ∀ k, k ≠ i → (Mine (upd h i o) (upd β i l) k ↔ Mine h β k) := fun k hk => by simp [Mine, upd_other _ _ hk]
  have hmi : Mine (upd h i o) (upd β i l) i ↔ l.nil = false := by simp [Mine, upd_same, hrw]
  have hhd : ∀ k, Hd (h k) (β k) (upd h i o k) (upd β i l k) := fun k => by
    by_cases hk : k = i
    · subst hk; rw [upd_same, upd_same]; exact hd
    · rw [upd_other _ _ hk, upd_other _ _ hk]; exact Hd.refl _ _
  have hrefs : ∀ r y, RefRep T h β r y → RefRep T (upd h i o) (upd β i l) r y := fun r y => refs_of_hd hhd
  have st : Stp h β w (upd h i o) (upd β i l) w' := by
    refine ⟨os, tape, output, size, fun b hb hn => frame b hb (hn i), fun k hk => ?_, hhd⟩
    by_cases hki : k = i
    · subst hki
      rw [upd_same]
      rcases hl (hmi.1 hk) with ⟨h1, h2⟩ | ⟨h1, _⟩
      · exact .inl ⟨k, h1, h2.symm⟩
      · exact .inr h1
    · rw [upd_other _ _ hki]
      exact .inl ⟨k, (hm k hki).1 hk, rfl⟩
  have hk := st.kept cx
  refine ⟨⟨fun k => ?_, fun k ha hr hn => ?_, fun a b hab ha hb => ?_, fun b hz => Nat.lt_of_lt_of_le (cx.zlt b hz) size, fun k hmk hz => ?_, fun g => Rep.kept hk _ _ _ _ (fun _ _ h => h) (cx.glob g)⟩, st⟩
  · by_cases hki : k = i
    · subst hki
      rw [upd_same, upd_same]
      exact hob hk hrefs
    · rw [upd_other _ _ hki, upd_other _ _ hki]
      by_cases ha : (h k).alive = true
      · refine (cx.ob k).kept hk hrefs (fun hn => ?_)
        have hlt := (cx.ob k).lt ha hn
        by_cases hr : (h k).rw = true
        · exact frame _ hlt (fun hmi' e => cx.inj i k (Ne.symm hki) hmi' ⟨hr, hn⟩ e)
        · exact hk.same _ hlt (cx.ro k ha (by simpa using hr) hn)
      · have hq : h k = .dead := by
          cases hq : h k with
          | dead => rfl
          | _ => rw [hq] at ha; exact absurd rfl ha
        rw [hq]
        trivial
  · by_cases hki : k = i
    · subst hki
      rw [upd_same] at hr
      rw [hrw] at hr
      cases hr
    · rw [upd_other _ _ hki] at ha hr hn ⊢
      exact hk.own _ ((cx.ob k).lt ha hn) (cx.ro k ha hr hn)
  · by_cases h1 : a = i
    · subst h1
      have hb' := (hm b (Ne.symm hab)).1 hb
      rw [upd_same, upd_other _ _ (Ne.symm hab)]
      rcases hl (hmi.1 ha) with ⟨h2, h3⟩ | ⟨h2, _⟩
      · rw [h3]; exact cx.inj a b hab h2 hb'
      · have := (cx.ob b).lt (Ob.rw_alive hb'.1) hb'.2
        omega
    · have ha' := (hm a h1).1 ha
      rw [upd_other _ _ h1]
      by_cases h4 : b = i
      · subst h4
        rw [upd_same]
        rcases hl (hmi.1 hb) with ⟨h2, h3⟩ | ⟨h2, _⟩
        · rw [h3]; exact cx.inj a b hab ha' h2
        · have := (cx.ob a).lt (Ob.rw_alive ha'.1) ha'.2
          omega
      · rw [upd_other _ _ h4]
        exact cx.inj a b hab ha' ((hm b h4).1 hb)
  · by_cases hki : k = i
    · subst hki
      rw [upd_same] at hz
      rcases hl (hmi.1 hmk) with ⟨h2, h3⟩ | ⟨h2, _⟩
      · rw [h3] at hz; exact cx.zown k h2 hz
      · have := cx.zlt _ hz; omega
    · rw [upd_other _ _ hki] at hz
      exact cx.zown k ((hm k hki).1 hmk) hz
end
end Go.AH

namespace Go.AH
open Go Go.RowKit

/-- A block of a loop's book-keeping. -/
def Book (w : World) (b : Nat) : Prop := (∃ r, w.heap[b]? = some (.loop r)) ∨ ∃ d, w.heap[b]? = some (.deferred d)
/-- Nothing has changed but such blocks, from B on. -/
structure Quiet (B : Nat) (w w' : World) : Prop where
  os : w'.os = w.os
  tape : w'.tape = w.tape
  output : w'.output = w.output
  size : w.heap.size ≤ w'.heap.size
  same : ∀ b, b < w.heap.size → w'.heap[b]? = w.heap[b]? ∨ (B ≤ b ∧ Book w b)

section
variable {T : TypeId → Ty} {G : Nat → V} {Z O : Nat → Prop} {R : V → Value → Prop} {h : Nat → Ob} {β : Nat → Loc} {w w' w'' : World} {B B' : Nat}

theorem Quiet.refl : Quiet B w w := ⟨rfl, rfl, rfl, Nat.le_refl _, fun _ _ => .inl rfl⟩
theorem Quiet.mono (q : Quiet B w w') (hB : B' ≤ B) : Quiet B' w w' := ⟨q.os, q.tape, q.output, q.size, fun b hb => (q.same b hb).imp id fun h => ⟨Nat.le_trans hB h.1, h.2⟩⟩
theorem Quiet.of_heap (hh : w'.heap = w.heap) (ho : w'.os = w.os) (ht : w'.tape = w.tape) (hp : w'.output = w.output) : Quiet B w w' := ⟨ho, ht, hp, by rw [hh]; exact Nat.le_refl _, fun b _ => .inl (by rw [hh])⟩
theorem Quiet.trans (a : Quiet B w w') (b : Quiet B w' w'') : Quiet B w w'' := {
  os := b.os.trans a.os
  tape := b.tape.trans a.tape
  output := b.output.trans a.output
  size := Nat.le_trans a.size b.size
  same := fun k hk => by
    rcases a.same k hk with h1 | h1
    · rcases b.same k (Nat.lt_of_lt_of_le hk a.size) with h2 | ⟨h2, h3⟩
      · exact .inl (h2.trans h1)
      · exact .inr ⟨h2, by unfold Book at *; rwa [h1] at h3⟩
    · exact .inr h1 }
theorem Quiet.alloc (w : World) (o : Obj) : Quiet B w (w.alloc o) :=
  ⟨rfl, rfl, rfl, by rw [World.size_alloc]; omega, fun b hb => .inl (by show (w.heap.push o)[b]? = _; rw [Array.getElem?_push_lt hb]; simp [hb])⟩
theorem Book.cells {b : Nat} {c : Array Value} {e : TypeId} {z : Nat × Nat} (hk : Book w b) (hc : w.heap[b]? = some (.cells c e z)) : False := by
  rcases hk with ⟨r, hr⟩ | ⟨d, hr⟩ <;> rw [hc] at hr <;> cases hr
theorem Book.map {b : Nat} {es : Array MapEntry} {clk : Nat} (hk : Book w b) (hc : w.heap[b]? = some (.map es clk)) : False := by
  rcases hk with ⟨r, hr⟩ | ⟨d, hr⟩ <;> rw [hc] at hr <;> cases hr
theorem Book.cell {b o : Nat} {v : Option _} {u : Value} (hk : Book w b) (hc : w.cell? ⟨b, o, v⟩ = some u) : False := by
  rcases hk with ⟨r, hr⟩ | ⟨d, hr⟩ <;> simp [World.cell?, hr] at hc
theorem Quiet.cells (q : Quiet B w w') {b : Nat} {c : Array Value} {e : TypeId} {z : Nat × Nat} (hc : w.heap[b]? = some (.cells c e z)) : w'.heap[b]? = w.heap[b]? := by
  rcases q.same b (Array.getElem?_eq_some_iff.1 hc).1 with h | ⟨_, h⟩
  · exact h
  · exact (h.cells hc).elim
theorem Quiet.map (q : Quiet B w w') {b : Nat} {es : Array MapEntry} {clk : Nat} (hc : w.heap[b]? = some (.map es clk)) : w'.heap[b]? = w.heap[b]? := by
  rcases q.same b (Array.getElem?_eq_some_iff.1 hc).1 with h | ⟨_, h⟩
  · exact h
  · exact (h.map hc).elim
theorem Lies.quiet (q : Quiet B w w') {b o : Nat} {cs : List Value} (hb : b < w.heap.size) (hl : Lies w b o cs) : Lies w' b o cs := by
  rcases q.same b hb with h | ⟨_, h⟩
  · exact hl.kept h
  · exact fun j u hj => (h.cell (hl j u hj)).elim
mutual
theorem Rep.quiet (q : Quiet B w w') : ∀ (v : V) (R : V → Value → Prop) (x : Value), Rep T w O v R x → Rep T w' O v R x
  | .top, _, _, _ => trivial
  | .bool _, _, _, h => h
  | .int _ _, _, _, h => h
  | .str _, _, _, h => h
  | .nilp, _, _, h => h
  | .nilm, _, _, h => h
  | .nils, _, _, h => h
  | .nilf, _, _, h => h
  | .nili, _, _, h => h
  | .agg cs, R, _, h => by
    obtain ⟨a, rfl, h⟩ := h
    exact ⟨a, rfl, RepL.quiet q cs R _ h⟩
  | .tup cs, R, _, h => by
    obtain ⟨a, rfl, h⟩ := h
    exact ⟨a, rfl, RepL.quiet q cs R _ h⟩
  | .seq t vs, _, _, h => by
    obtain ⟨a, cap, rfl, hc, h⟩ := h
    refine ⟨a, cap, rfl, hc, ?_⟩
    rcases h with h | ⟨b, o, rfl, h1, h2, h3⟩
    · exact .inl h
    · exact .inr ⟨b, o, rfl, Nat.lt_of_lt_of_le h1 q.size, h2, RepSeq.quiet q vs t b o h1 h3⟩
  | .fix t vs, _, _, h => by
    obtain ⟨a, rfl, h⟩ := h
    refine ⟨a, rfl, ?_⟩
    rcases h with h | ⟨b, o, rfl, h1, h2, h3⟩
    · exact .inl h
    · exact .inr ⟨b, o, rfl, Nat.lt_of_lt_of_le h1 q.size, h2, RepSeq.quiet q vs t b o h1 h3⟩
  | .pref cs, _, _, h => by
    obtain ⟨b, o, l, rfl, h1, h2, h3, h4⟩ := h
    exact ⟨b, o, l, rfl, Nat.lt_of_lt_of_le h1 q.size, h2, h3.quiet q h1, RepL.quiet q cs _ _ h4⟩
  | .dict t ks vs, _, _, h => by
    obtain ⟨r, es, clk, rfl, h1, h2, h3, hd, h4, h5⟩ := h
    exact ⟨r, es, clk, rfl, Nat.lt_of_lt_of_le h1 q.size, h2, (q.map h3).trans h3, hd, RepL.quiet q ks _ _ h4, RepL.quiet q vs _ _ h5⟩
  | .clo f a b, R, _, h => by
    obtain ⟨p, s, rfl, h1, h2⟩ := h
    exact ⟨p, s, rfl, RepL.quiet q a R _ h1, RepL.quiet q b R _ h2⟩
  | .iface t v, R, _, h => by
    obtain ⟨y, rfl, h⟩ := h
    exact ⟨y, rfl, Rep.quiet q v R _ h⟩
  | .box .., _, _, h => h
  | .full .., _, _, h => h
  | .sub .., _, _, h => h
  | .elt .., _, _, h => h
  | .mref .., _, _, h => h
  | .bsl .., _, _, h => h
  | .itr .., _, _, h => h
theorem RepL.quiet (q : Quiet B w w') : ∀ (vs : List V) (R : V → Value → Prop) (l : List Value), RepL T w O vs R l → RepL T w' O vs R l
  | [], _, _, h => h
  | v :: vs, R, _, h => by
    obtain ⟨x, r, rfl, h1, h2⟩ := h
    exact ⟨x, r, rfl, Rep.quiet q v R _ h1, RepL.quiet q vs R _ h2⟩
theorem RepSeq.quiet (q : Quiet B w w') : ∀ (vs : List V) (t b o : Nat), b < w.heap.size → RepSeq T w O vs t b o → RepSeq T w' O vs t b o
  | [], _, _, _, _, _ => trivial
  | v :: vs, t, b, o, hb, h => by
    obtain ⟨h1, ⟨cs, h2, h3, h4⟩, h5⟩ := h
    exact ⟨h1, ⟨cs, h2, h3.quiet q hb, Rep.quiet q v _ _ h4⟩, RepSeq.quiet q vs t b _ hb h5⟩
end
theorem RepSeq.quiet' (q : Quiet B w w') {vs : List V} {t b o : Nat} {c : Array Value} {e : TypeId} {z : Nat × Nat} (hc : w.heap[b]? = some (.cells c e z)) (h : RepSeq T w O vs t b o) : RepSeq T w' O vs t b o :=
  RepSeq.quiet q vs t b o (Array.getElem?_eq_some_iff.1 hc).1 h
theorem ObRep.quiet (q : Quiet B w w') {l : Loc} {o : Ob} (h : ObRep T w O R l o) : ObRep T w' O R l o := by
  cases o with
  | dead => trivial
  | box ro cs =>
    obtain ⟨hn, arr, e, h1, h2⟩ := h
    exact ⟨hn, arr, e, (q.cells h1).trans h1, RepL.quiet q cs _ _ h2⟩
  | row ro g t vs =>
    obtain ⟨ht, h | ⟨hn, cur, h1, h2, h3, h4, h5⟩⟩ := h
    · exact ⟨ht, .inl h⟩
    · exact ⟨ht, .inr ⟨hn, cur, (q.cells h1).trans h1, h2, h3, h4, h5.quiet' q h1⟩⟩
  | sit ro s k =>
    obtain ⟨hn, b, hb, h1⟩ := h
    refine ⟨hn, b, hb, ?_⟩
    rcases q.same l.b (Array.getElem?_eq_some_iff.1 h1).1 with h2 | ⟨_, h2⟩
    · exact h2.trans h1
    · rcases h2 with ⟨r, hr⟩ | ⟨d, hr⟩ <;> rw [h1] at hr <;> cases hr
  | dict ro t ks vs =>
    obtain ⟨hn, hd, es, clk, h1, h2, h3⟩ := h
    exact ⟨hn, hd, es, clk, (q.map h1).trans h1, RepL.quiet q ks _ _ h2, RepL.quiet q vs _ _ h3⟩
theorem Cx.quiet (cx : Cx T G Z h β w) (q : Quiet B w w') : Cx T G Z h β w' := {
  ob := fun i => (cx.ob i).quiet q
  ro := cx.ro
  inj := cx.inj
  zlt := fun b hb => Nat.lt_of_lt_of_le (cx.zlt b hb) q.size
  zown := cx.zown
  glob := fun g => Rep.quiet q _ _ _ (cx.glob g) }
end
end Go.AH

namespace Go.AH
open Go Go.RowKit

def SRep (T : TypeId → Ty) (w : World) (O : Nat → Prop) (R : V → Value → Prop) (s : Nat → V) (a : Act) : Prop := ∀ t, Rep T w O (s t) R (a.tmps.getD t undef)

section
variable {T : TypeId → Ty} {w : World} {O : Nat → Prop} {R : V → Value → Prop}
theorem Rep.ofConst (x : Value) : Rep T w O (ofConst x) R x := by
  have one : ∀ x : Value, Rep T w O (ofConst.one x) R x := by
    intro x
    cases x with
    | bool b => rfl
    | int k n => rfl
    | string s => exact ⟨s, rfl, rfl⟩
    | slice a n c =>
      cases a with
      | some a => exact trivial
      | none =>
        cases n with
        | zero => cases c with
          | zero => exact ⟨none, 0, rfl, Nat.le_refl _, .inl rfl⟩
          | succ c => exact trivial
        | succ n => exact trivial
    | pointer a => cases a <;> first | rfl | exact trivial
    | map a => cases a <;> first | rfl | exact trivial
    | nilFunc => rfl
    | nilIface => rfl
    | _ => exact trivial
  cases x with
  | bool b => rfl
  | int k n => rfl
  | string s => exact ⟨s, rfl, rfl⟩
  | slice a n c =>
    cases a with
    | some a => exact trivial
    | none =>
      cases n with
      | zero => cases c with
        | zero => exact ⟨none, 0, rfl, Nat.le_refl _, .inl rfl⟩
        | succ c => exact trivial
      | succ n => exact trivial
  | pointer a => cases a <;> first | rfl | exact trivial
  | map a => cases a <;> first | rfl | exact trivial
  | nilFunc => rfl
  | nilIface => rfl
  | agg cs =>
    refine ⟨cs, rfl, RepL.of_all (by simp) (fun n v x h1 h2 => ?_)⟩
    simp only [List.getElem?_map, h2, Option.map_some, Option.some.injEq] at h1
    rw [← h1]
    exact one x
  | _ => exact trivial

structure EvOk (E : Env) (P : Program) : Prop where
  ty : TyOk P E.ty
theorem SRep.ev {E : Env} {s : Nat → V} {a : Act} (hs : SRep T w O R s a) (hg : ∀ g, Rep T w O (E.glob g) noR (.pointer (some ⟨g, 0, none⟩))) (x : Operand) : Rep T w O (ev E s x) R (a.eval x) := by
  cases x with
  | tmp t => exact hs t
  | const v => exact Rep.ofConst v
  | func f => exact ⟨#[], #[], rfl, rfl, rfl⟩
  | global g => exact Rep.refs _ _ _ _ (fun _ _ _ h => h.elim) (hg g)

theorem Rep.cells {v : V} {x : Value} (h : Rep T w O v R x) (hv : isAggV v = true ∨ v.storable = true) (hR : ∀ r y, R r y → y.oneCell' = true) : RepL T w O v.cells R x.cells.toList := by
  cases v with
  | agg cs => obtain ⟨a, rfl, h⟩ := h; exact h
  | top => rcases hv with h | h <;> cases h
  | tup vs => rcases hv with h | h <;> cases h
  | _ =>
    have h1 := Rep.one h (by rfl) hR
    have : x.cells = #[x] := by cases x <;> first | rfl | (simp [Value.oneCell'] at h1)
    rw [this]
    exact ⟨x, [], rfl, h, rfl⟩
theorem Rep.int_inv {k : IntKind} {n : Int} {x : Value} (h : Rep T w O (.int k n) R x) : x = .int k n := h
theorem RefRep.one {h : Nat → Ob} {β : Nat → Loc} (hg : ∀ i, (h i).alive = true) : True := trivial

/- Numbers. -/
theorem kk (k : IntKind) : ¬ (k ≠ k) := fun h => h rfl
theorem run_binInt {P : Program} {op : BinOp} {k : IntKind} {x y : Int} {v : V} (t : TypeId) (h1 : op ≠ .shl) (h2 : op ≠ .shr) (he : (binInt op k x y).eval = some v) :
    ∃ z, (binOp op t (.int k x) (.int k y)).run P w = .ok z w ∧ ∀ R, Rep T w O v R z := by
  cases op
  case shl => exact absurd rfl h1
  case shr => exact absurd rfl h2
  case quo =>
    by_cases h : y = 0
    · simp [binInt, Tr.eval, Tr.test, h] at he
    · have hd : decide (y ≠ 0) = true := by simpa using h
      simp only [binInt, Tr.test, hd, Tr.eval, Option.some.injEq] at he
      subst he
      refine ⟨_, ?_, fun _ => rfl⟩
      show Sem.run P (if k ≠ k then _ else Op.intDiv .quo k x y) w = _
      rw [if_neg (kk k)]
      show Sem.run P (if y = 0 then _ else _) w = _
      rw [if_neg h]
      rfl
  case rem =>
    by_cases h : y = 0
    · simp [binInt, Tr.eval, Tr.test, h] at he
    · have hd : decide (y ≠ 0) = true := by simpa using h
      simp only [binInt, Tr.test, hd, Tr.eval, Option.some.injEq] at he
      subst he
      refine ⟨_, ?_, fun _ => rfl⟩
      show Sem.run P (if k ≠ k then _ else Op.intDiv .rem k x y) w = _
      rw [if_neg (kk k)]
      show Sem.run P (if y = 0 then _ else _) w = _
      rw [if_neg h]
      rfl
  all_goals
    have he' := Option.some.inj (show some _ = some v from he)
    subst he'
    refine ⟨_, ?_, fun _ => rfl⟩
    show Sem.run P (if k ≠ k then _ else _) w = _
    rw [if_neg (kk k)]
    rfl

theorem repBool {b : Bool} : Rep T w O (.bool b) R (.bool b) := rfl
theorem toList_data (s : ByteArray) : s.toList = s.data.toList := by rw [ByteArray.toList_eq]
theorem run_binStr {P : Program} {op : BinOp} {x y : List UInt8} {a b : ByteArray} {v : V} (t ty : TypeId) (E : Ty) (ha : a.data.toList = x) (hb : b.data.toList = y) (he : (binV E op (.str x) (.str y)).eval = some v) :
    ∃ z, (binOp op t (.string a) (.string b)).run P w = .ok z w ∧ ∀ R, Rep T w O v R z := by
  have hx : a.toList = x := by rw [toList_data, ha]
  have hy : b.toList = y := by rw [toList_data, hb]
  have hs : a.size = x.length := by rw [← ha]; rfl
  have hs2 : b.size = y.length := by rw [← hb]; rfl
  cases op <;> first | (simp [binV, Tr.eval] at he; done) | skip
  case add =>
    by_cases h : x.length + y.length ≤ lim
    · have hd : decide (x.length + y.length ≤ lim) = true := by simpa using h
      have he' := Option.some.inj (show some _ = some v from by simpa [binV, Tr.test, Tr.eval, hd] using he)
      subst he'
      refine ⟨.string (a ++ b), ?_, fun _ => ⟨a ++ b, rfl, by rw [← ha, ← hb]; simp⟩⟩
      show Sem.run P (if ((a.size + b.size : Nat) : Int) > IntKind.i64.max then _ else _) w = _
      rw [if_neg (by
        have : IntKind.i64.max = 9223372036854775807 := by decide
        unfold lim at h
        omega)]
      rfl
    · simp [binV, Tr.test, Tr.eval, h] at he
  all_goals
    have he' := Option.some.inj (show some _ = some v from he)
    subst he'
    refine ⟨_, rfl, fun _ => ?_⟩
    simp only [Rep, hx, hy]

/- Equality. -/
theorem run_eqV_basic {P : Program} {d : Nat} {t : TypeId} {k : Kd} {a b : V} {x y : Value} {r : Bool} {R R' : V → Value → Prop} (hb : basicB P t = some k) (fa : isForm k a = true) (fb : isForm k b = true) (ha : Rep T w O a R x) (hb' : Rep T w O b R' y) (he : eqV a b = some r) :
    (Op.equalIn (d + 1) t x y).run P w = .ok r w := by
  unfold basicB at hb
  split at hb <;> simp at hb
  all_goals rename_i hu
  all_goals subst hb
  · cases a <;> simp [isForm] at fa
    cases b <;> simp [isForm] at fb
    rw [show x = _ from ha, show y = _ from hb']
    simp [eqV] at he
    subst he
    exact run_equalIn_bool w d t _ _ hu
  · cases a <;> simp [isForm] at fa
    cases b <;> simp [isForm] at fb
    subst fa fb
    rw [show x = _ from ha, show y = _ from hb']
    simp [eqV] at he
    subst he
    exact run_equalIn_int w d t _ _ _ _ hu
  · cases a <;> simp [isForm] at fa
    cases b <;> simp [isForm] at fb
    obtain ⟨p, rfl, hp⟩ := ha
    obtain ⟨q, rfl, hq⟩ := hb'
    simp [eqV] at he
    subst he
    rw [run_equalIn_string w d t _ _ hu, toList_data, toList_data, hp, hq]
theorem run_eqFields {P : Program} {d : Nat} {xs ys : Array Value} {R R' : V → Value → Prop} : ∀ (fs : List Field) (off : Nat) (ks : List Kd) (va vb : List V) (la lb : List Value) (r : Bool),
    basics P off fs = some ks → isFormL ks va = true → isFormL ks vb = true → RepL T w O va R la → RepL T w O vb R' lb → xs.toList.drop off = la → ys.toList.drop off = lb → eqCells va vb = some r →
    (Op.eqFields (d + 1) xs ys fs).run P w = .ok r w
  | [], off, ks, va, vb, la, lb, r, hb, fa, fb, ra, rb, hx, hy, he => by
    simp [basics] at hb
    subst hb
    cases va with
    | nil => cases vb with
      | nil => simp [eqCells] at he; subst he; rfl
      | cons => simp [isFormL] at fb
    | cons => simp [isFormL] at fa
  | f :: fs, off, ks, va, vb, la, lb, r, hb, fa, fb, ra, rb, hx, hy, he => by
    unfold basics at hb
    split at hb
    · rename_i k hk
      split at hb
      · rename_i hn
        cases hq : basics P (off + 1) fs with
        | none => rw [hq] at hb; cases hb
        | some ks' =>
          rw [hq] at hb
          simp at hb
          subst hb
          match va, vb, fa, fb, ra, rb, he with
          | a :: va, b :: vb, fa, fb, ra, rb, he =>
            rw [isFormL, Bool.and_eq_true] at fa fb
            obtain ⟨x, la', rfl, h1, h2⟩ := ra
            obtain ⟨y, lb', rfl, h3, h4⟩ := rb
            have hxo : xs[off]? = some x := by
              have : (xs.toList.drop off)[0]? = some x := by rw [hx]; rfl
              simpa using this
            have hyo : ys[off]? = some y := by
              have : (ys.toList.drop off)[0]? = some y := by rw [hy]; rfl
              simpa using this
            have hagg : (isAgg f.type).run P w = .ok false w := by
              unfold basicB at hk
              split at hk <;> simp at hk
              all_goals (rename_i hu; simp [isAgg, run_underlying hu])
            cases hv : eqV a b with
            | none => simp [eqCells, hv] at he
            | some r1 =>
              cases hr : eqCells va vb with
              | none => simp [eqCells, hv, hr] at he
              | some r2 =>
                simp [eqCells, hv, hr] at he
                subst he
                have h5 := run_eqV_basic (P := P) (d := d) hk fa.1 fb.1 h1 h3 hv
                have ih := run_eqFields (d := d) (xs := xs) (ys := ys) fs (off + 1) ks' va vb la' lb' r2 hq fa.2 fb.2 h2 h4 (by rw [← List.drop_drop, hx]; rfl) (by rw [← List.drop_drop, hy]; rfl) hr
                obtain ⟨hn1, hn2⟩ := hn
                simp only [Op.eqFields, hn1, ne_eq, not_false_eq_true, if_true]
                have hp1 : (part f.type xs f.offset).run P w = .ok x w := by rw [hn2]; simp [part, hagg, hxo]
                have hp2 : (part f.type ys f.offset).run P w = .ok y w := by rw [hn2]; simp [part, hagg, hyo]
                simp only [Sem.run_bind, hp1, hp2, h5, Result.andThen_ok]
                cases r1
                · rfl
                · simpa using ih
          | [], _, fa, _, _, _, _ => simp [isFormL] at fa
          | _ :: _, [], _, fb, _, _, _ => simp [isFormL] at fb
      · cases hb
    · cases hb
def notNum : Value → Bool | .int .. => false | .float .. => false | .complex .. => false | .string _ => false | _ => true
theorem binOp_eql {t : TypeId} {x y : Value} (h : notNum x = true) : binOp .eql t x y = (do pure (.bool (← Op.equal t x y))) ∧ binOp .neq t x y = (do pure (.bool (!(← Op.equal t x y)))) := by
  cases x <;> first | exact ⟨rfl, rfl⟩ | cases h
theorem run_eqIn_func {P : Program} (d : Nat) {t : TypeId} {a1 a2 : Array TypeId} {a3 : Bool} (hu : P.underlying t = some (.func a1 a2 a3)) (f : Fn) (p q : Array Value) :
    (Op.equalIn (d + 1) t .nilFunc .nilFunc).run P w = .ok true w ∧ (Op.equalIn (d + 1) t .nilFunc (.func f p q)).run P w = .ok false w ∧ (Op.equalIn (d + 1) t (.func f p q) .nilFunc).run P w = .ok false w := by
  refine ⟨?_, ?_, ?_⟩ <;> simp [Op.equalIn, run_underlying hu]
theorem run_eqIn_ptr {P : Program} (d : Nat) {t e : TypeId} (hu : P.underlying t = some (.pointer e)) (p : Option Addr) :
    (Op.equalIn (d + 1) t (.pointer none) (.pointer p)).run P w = .ok p.isNone w ∧ (Op.equalIn (d + 1) t (.pointer p) (.pointer none)).run P w = .ok p.isNone w := by
  refine ⟨?_, ?_⟩
  · simp [Op.equalIn, run_underlying hu]
  · cases p <;> simp [Op.equalIn, run_underlying hu]
theorem run_eqIn_map {P : Program} (d : Nat) {t k e : TypeId} (hu : P.underlying t = some (.map k e)) (p : Option Nat) :
    (Op.equalIn (d + 1) t (.map none) (.map p)).run P w = .ok p.isNone w ∧ (Op.equalIn (d + 1) t (.map p) (.map none)).run P w = .ok p.isNone w := by
  refine ⟨?_, ?_⟩
  · cases p <;> simp [Op.equalIn, run_underlying hu]
  · cases p <;> simp [Op.equalIn, run_underlying hu]
theorem run_eqT {P : Program} {t : TypeId} {ty : Ty} {a b : V} {x y : Value} {r : Bool} {R : V → Value → Prop} (row : Row P t ty) (ha : Rep T w O a R x) (hb : Rep T w O b R y) (he : eqT ty a b = some r)
    (hp : ∀ i j z, R (.box i j) z → ∃ p, z = .pointer (some p)) (hp2 : ∀ i g k j z, R (.elt i g k j) z → ∃ p, z = .pointer (some p)) (hp3 : ∀ i z, R (.mref i) z → ∃ p, z = .map (some p)) :
    (Op.equal t x y).run P w = .ok r w ∧ (∀ op ox oy, (eqGuard op t ox oy x y).run P w = .ok () w) ∧ notNum x = true := by
  have ptr : ∀ {e : TypeId} (p q : Option Addr) (b : Bool), P.underlying t = some (.pointer e) → (p = none ∧ b = q.isNone ∨ q = none ∧ b = p.isNone) → x = .pointer p → y = .pointer q →
      (Op.equal t x y).run P w = .ok b w ∧ (∀ op ox oy, (eqGuard op t ox oy x y).run P w = .ok () w) ∧ notNum x = true := by
    intro e p q b hu hpq hx hy
    subst hx hy
    refine ⟨?_, fun op ox oy => by cases op <;> rfl, rfl⟩
    rcases hpq with ⟨rfl, rfl⟩ | ⟨rfl, rfl⟩
    · exact (run_eqIn_ptr 9999 hu q).1
    · exact (run_eqIn_ptr 9999 hu p).2
  unfold eqT at he
  split at he
  · rename_i xs ys
    split at he
    · rename_i gs hd
      split at he
      · rename_i hf
        simp only [Bool.and_eq_true] at hf
        obtain ⟨fs, hu, _, _, _, hq⟩ := row.struct hd
        obtain ⟨hq1, hq2, hq3⟩ := hq hf.1.1
        obtain ⟨p, rfl, h1⟩ := ha
        obtain ⟨q, rfl, h2⟩ := hb
        have hfo : P.fieldsOf t = fs := by simp [Program.fieldsOf, hu]
        refine ⟨?_, fun op ox oy => run_eqGuard_agg w op t ox oy p q hq3, rfl⟩
        rw [Op.equal, Op.maxDepth, run_equalIn_struct w 9999 t p q (by rw [hfo]; exact hu) hq2, hfo]
        exact run_eqFields (d := 9998) fs.toList 0 ty.kinds xs ys p.toList q.toList r hq1 hf.1.2 hf.2 h1 h2 rfl rfl he
      · cases he
    · cases he
  · rename_i u v
    split at he
    · rename_i hd
      obtain ⟨hu, _⟩ := row.bool hd
      rw [show x = _ from ha, show y = _ from hb]
      simp at he
      subst he
      exact ⟨run_equal_bool w t u v hu, fun op ox oy => by cases op <;> rfl, rfl⟩
    · cases he
  · split at he
    · rename_i e hd
      have hu := row.ptr hd
      unfold eqP at he
      split at he <;> simp at he <;> subst he
      · exact ptr none none _ hu (.inl ⟨rfl, rfl⟩) ha hb
      · obtain ⟨p, o, l, hy, _⟩ := hb; exact ptr none _ _ hu (.inl ⟨rfl, rfl⟩) ha hy
      · obtain ⟨p, hy⟩ := hp _ _ _ hb; exact ptr none _ _ hu (.inl ⟨rfl, rfl⟩) ha hy
      · obtain ⟨p, hy⟩ := hp2 _ _ _ _ _ hb; exact ptr none _ _ hu (.inl ⟨rfl, rfl⟩) ha hy
      · obtain ⟨p, o, l, hx, _⟩ := ha; exact ptr _ none _ hu (.inr ⟨rfl, rfl⟩) hx hb
      · obtain ⟨p, hx⟩ := hp _ _ _ ha; exact ptr _ none _ hu (.inr ⟨rfl, rfl⟩) hx hb
      · obtain ⟨p, hx⟩ := hp2 _ _ _ _ _ ha; exact ptr _ none _ hu (.inr ⟨rfl, rfl⟩) hx hb
    · rename_i hd
      obtain ⟨a1, a2, a3, hu⟩ := row.func hd
      unfold eqF at he
      split at he <;> simp at he <;> subst he
      · rw [show x = _ from ha, show y = _ from hb]
        exact ⟨(run_eqIn_func 9999 hu (.func 0) #[] #[]).1, fun op ox oy => by cases op <;> rfl, rfl⟩
      · rw [show x = _ from ha]
        obtain ⟨p', q', rfl, _⟩ := hb
        exact ⟨(run_eqIn_func 9999 hu _ _ _).2.1, fun op ox oy => by cases op <;> rfl, rfl⟩
      · rw [show y = _ from hb]
        obtain ⟨p', q', rfl, _⟩ := ha
        exact ⟨(run_eqIn_func 9999 hu _ _ _).2.2, fun op ox oy => by cases op <;> rfl, rfl⟩
    · rename_i k e hd
      have hu := row.map hd
      have mp : ∀ (p q : Option Nat) (b : Bool), (p = none ∧ b = q.isNone ∨ q = none ∧ b = p.isNone) → x = .map p → y = .map q →
          (Op.equal t x y).run P w = .ok b w ∧ (∀ op ox oy, (eqGuard op t ox oy x y).run P w = .ok () w) ∧ notNum x = true := by
        intro p q b hpq hx hy
        subst hx hy
        refine ⟨?_, fun op ox oy => by cases op <;> rfl, rfl⟩
        rcases hpq with ⟨rfl, rfl⟩ | ⟨rfl, rfl⟩
        · exact (run_eqIn_map 9999 hu q).1
        · exact (run_eqIn_map 9999 hu p).2
      unfold eqM at he
      split at he <;> simp at he <;> subst he
      · exact mp none none _ (.inl ⟨rfl, rfl⟩) ha hb
      · obtain ⟨r, es, clk, hy, _⟩ := hb; exact mp none _ _ (.inl ⟨rfl, rfl⟩) ha hy
      · obtain ⟨p, hy⟩ := hp3 _ _ hb; exact mp none _ _ (.inl ⟨rfl, rfl⟩) ha hy
      · obtain ⟨r, es, clk, hx, _⟩ := ha; exact mp _ none _ (.inr ⟨rfl, rfl⟩) hx hb
      · obtain ⟨p, hx⟩ := hp3 _ _ ha; exact mp _ none _ (.inr ⟨rfl, rfl⟩) hx hb
    · cases he
end
end Go.AH
