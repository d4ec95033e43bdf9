/- Functions run by their own text, with fuel for calls and loops. -/
import Derived.Test.YtecplbjggbelbaaAHH
namespace Go.AH
open Go Go.RowKit

def loopF (step : List V → List Ob → Tr (Ex × List V × List Ob)) : Nat → List V → List Ob → Tr (Ex × List V × List Ob)
  | 0, _, _ => .fail
  | n + 1, vs, os => (step vs os).bind fun y => match y with
    | (.normal, vs', os') => loopF step n vs' os'
    | y => .ret y
/-- How a function is run. -/
structure Fd where
  fn : Func
  own : Bool
  keep : Nat → List Nat
  keepX : Nat → List Nat
def bodyAt (key : Nat) : List Code → Option Code
  | [] => none
  | b :: r => (match Nat.beq (loopKey b) key with | true => some b | false => bodyAt key r)
def Fd.loop (d : Fd) (key : Nat) : Option Code := bodyAt key (loopsIn (d.fn.body.getD .skip))
structure Lang where
  ty : TypeId → Ty
  glob : Nat → V
  mode : FuncId → List Bool
  fd : FuncId → Option Fd
  ov : FuncId → Option Model
def lv (g : Lang) (C : FuncId → Model) (d : Fd) (m fuel : Nat) : Nat → Env
  | 0 => ⟨g.ty, C, fun _ _ _ => .fail, g.mode, g.glob, d.keep, d.keepX⟩
  | k + 1 => ⟨g.ty, C, fun key vs os => (match d.loop key with | some b => loopF (loopStep (lv g C d m fuel k) m key b) fuel vs os | none => .fail), g.mode, g.glob, d.keep, d.keepX⟩
/-- Function f, with calls at most n deep, loops at most 'fuel' rounds, and nested at most 8 deep. -/
def interp (g : Lang) (fuel : Nat) : Nat → FuncId → Model
  | 0, f => (match g.ov f with | some M => M | none => fun _ _ => .fail)
  | n + 1, f => (match g.ov f with
    | some M => M
    | none => (match g.fd f with
      | some d => fun args objs => runF (lv g (interp g fuel n) d objs.length fuel 8) d.own d.fn args objs
      | none => fun _ _ => .fail))
end Go.AH
