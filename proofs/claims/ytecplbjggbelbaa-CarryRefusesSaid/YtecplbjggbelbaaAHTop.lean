/- A law's function, at what comes in. -/
import Derived.Test.YtecplbjggbelbaaAHIn
import Derived.Below
import Derived.WideShapes
namespace Go.AH
open Go Go.RowKit

section
variable {P : Program} {T : TypeId → Ty} {w : World}

def noZ : Nat → Prop := fun _ => False
def topG : Nat → V := fun _ => .top
theorem own_none {β : Nat → Loc} (b : Nat) : ¬ Own noZ (hOf []) β b := by
  rintro (h | ⟨i, hi, _⟩)
  · exact h
  · have := hi.1
    cases this
theorem cx_none (β : Nat → Loc) : Cx T topG noZ (hOf []) β w := {
  ob := fun _ => trivial
  ro := fun i h => by cases h
  inj := fun i _ _ h => by have := h.1; cases this
  zlt := fun b h => h.elim
  zown := fun i h => by have := h.1; cases this
  glob := fun _ => trivial }
/-- The function returns what its model says, and leaves what was there. -/
theorem top_calls {f : FuncId} {fn : Func} {c : Code} (hf : P.funcs[f]? = some fn) (hname : (fn.name == "runtime.NumGoroutine") = false) (hb : fn.body = some c) {C : Model} (h : Holds T topG P f C) {args : List V} {cargs : Array Value} {b : Bool}
    (hargs : RepL T w (fun _ => False) args noR cargs.toList) (hC : (C args []).eval = some (.ret (.bool b) [])) : Calls P f cargs w fun e w' => e = .returned (.bool b) ∧ Below w.heap.size w w' := by
  have hargs2 : RepL T w (Own noZ (hOf []) (fun _ => default)) args (RefRep T (hOf []) (fun _ => default)) cargs.toList :=
    RepL.kept ⟨Nat.le_refl _, fun _ _ _ => rfl, fun b _ _ => own_none b⟩ _ _ _ _ (fun _ _ h => h.elim) hargs
  have key := h args [] _ hC (by simp) noZ (fun _ => default) w cargs (cx_none _) hargs2
  have h1 : fn.name ≠ "runtime.NumGoroutine" := by simpa using hname
  have hrun : (callFunc f cargs).run P w = .ok (.enter f cargs) w := by simp [callFunc, hf, h1, hb]
  rcases key with ⟨_, k⟩ | ⟨x, w', k, _⟩
  · refine k.mono (fun e w' he => ?_)
    cases e with
    | returned x =>
      obtain ⟨v, objs', β', h2, gd⟩ := he
      simp only [Out.ret.injEq] at h2
      obtain ⟨rfl, rfl⟩ := h2
      have hx : x = .bool b := gd.rep
      subst hx
      exact ⟨rfl, gd.wk.os, gd.wk.tape, gd.wk.output, gd.wk.size, fun k hk => gd.wk.frame k hk (fun i hi => by have := hi.1; cases this)⟩
    | panicked ch => obtain ⟨_, _, _, _, h2, _⟩ := he; cases h2
    | outgrown => exact he.elim
  · rw [hrun] at k
    cases k
end
end Go.AH
