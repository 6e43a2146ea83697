/- The statement AgendaRuns: the walk, for its arguments. -/
import Derived.Test.YtgcncnmkfpfccaaAgRg
namespace Go.Proofs.Ytgcncnmkfpfccaa
open Go.RowKit Go.Shelf
set_option linter.unusedVariables false

set_option maxRecDepth 100000 in
open Go.ChangeShapes Go.WideShapes Go.ChangeAt in
theorem walk_AgendaRuns {H : Type} (enc : TypeId × Value → H) (base : Nat) (W : World) (v : Value) (d : DataW H) (p : List MemPlace) (h : DataW.Trod enc Try.prog W 0 (fun _ => true) true 22 v d p) (ok : Value.okWide Try.prog W .any base 22 v) :
    Calls Try.prog 3 #[v] W fun e w' => e = .returned (.bool true) ∧ Below W.heap.size W w' := by
  obtain ⟨a, cap, l, rfl, hl, hc, _, hT⟩ := opqs_arg h ok
  exact runs_law a cap l (by omega) W hT

end Go.Proofs.Ytgcncnmkfpfccaa
