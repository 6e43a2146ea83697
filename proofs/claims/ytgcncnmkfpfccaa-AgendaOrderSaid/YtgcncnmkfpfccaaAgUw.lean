/- The statement AgendaOrder: the walk, for its arguments. -/
import Derived.Test.YtgcncnmkfpfccaaAgU
namespace Go.Proofs.Ytgcncnmkfpfccaa
open Go.RowKit Go.Shelf
set_option linter.unusedVariables false

set_option maxRecDepth 100000 in
open Go.ChangeShapes Go.WideShapes Go.ChangeAt in
theorem walk_AgendaOrder {H : Type} (enc : TypeId × Value → H) (base : Nat) (W : World) (v : Value) (d : DataW H) (p : List MemPlace) (h : DataW.Trod enc Try.prog W 0 (fun _ => true) true 22 v d p) (ok : Value.okWide Try.prog W .any base 22 v)
    (t : Int) (ht : (Lit.int .i64 t).wf = true) :
    Calls Try.prog 4 #[v, .int .i64 t] W fun e w' => e = .returned (.bool true) ∧ Below W.heap.size W w' := by
  obtain ⟨a, cap, l, rfl, hl, hc, _, hT⟩ := opqs_arg h ok
  exact order_law a cap l t (by omega) W hT

end Go.Proofs.Ytgcncnmkfpfccaa
