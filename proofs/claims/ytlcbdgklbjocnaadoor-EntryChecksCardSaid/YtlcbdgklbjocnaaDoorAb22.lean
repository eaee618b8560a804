/- The abstract view, 22: a law's row from its walk. -/
import Derived.Test.YtlcbdgklbjocnaaDoorAb21
set_option linter.unusedVariables false
namespace Go.Ab
open Go Go.RowKit

/-- The cells of a listed datum. -/
def cellsD {H : Type} : DataW H → List Value
  | .lit (.int k n) => [.int k n]
  | .lit (.bool b) => [.bool b]
  | .lit (.string s) => [.string ⟨s.toArray⟩]
  | .agg ds => cellsDs ds
  | _ => []
where cellsDs : List (DataW H) → List Value
  | [] => []
  | d :: ds => cellsD d ++ cellsDs ds

/-- A block's cells laid. -/
noncomputable def layBlock (w : World) (g : Nat) (cs : List Value) : World :=
  { w with heap := w.heap.modify g fun
      | .cells _ t frozen => .cells cs.toArray t frozen
      | o => o }

/-- From a contract in the abstract view to a call that a row asks for. -/
theorem calls_of_enter {E : Env} {P : Program} {W : World} {f : FuncId} {args : List AV} {cs : Array Value} {R : Ending → World → Prop} (hP : E.P = P) (hn : E.n0 = W.heap.size) (hw : E.w0 = W) (hg : E.gl = fun _ => []) (h : AEnter E f args [] (fun x H' => x = .ret (.bool true) ∧ H' = [])) (ha : VRels (ghost0 W) args cs)
    (hR : ∀ W', Below W.heap.size W W' → R (.returned (.bool true)) W') : Calls P f cs W R := by
  subst hP
  have hrep : E.Rep (ghost0 W) [] W := by
    show Ab.Rep E.n0 E.w0 E.gl (ghost0 W) [] W
    rw [hn, hw, hg]; exact rep0 W
  refine callsIn_wide.1 ((h _ _ _ hrep ha).2.mono ?_)
  rintro e W' ⟨x, H, g, ⟨rfl, rfl⟩, hl, hr, he⟩
  cases he with
  | ret hv =>
    have hv' := hv.bool_inv
    subst hv'
    have hb := hr.below
    rw [hn, hw] at hb
    exact hR W' hb

/-- One argument's outer form. -/
theorem param_ok {P : Program} {W : World} {base : Nat} {params : Array TypeId} {args : Array Value} (hval : ∀ (j : Nat) t v, params[j]? = some t → args[j]? = some v → Value.okWide P W .any base t v) {j t : Nat} {v : Value} (h1 : params[j]? = some t) (h2 : args[j]? = some v) : Value.okWide P W .any base t v := hval j t v h1 h2

end Go.Ab
