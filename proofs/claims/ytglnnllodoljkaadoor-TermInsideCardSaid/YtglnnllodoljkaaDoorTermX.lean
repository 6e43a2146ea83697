/- TermInside's argument. -/
import Derived.Test.YtglnnllodoljkaaDoorTermW
namespace Go.Proofs.YtglnnllodoljkaaDoor
open Go.ChangeShapes Go.WideShapes Go.ChangeAt Go.RowKit
set_option linter.unusedVariables false
set_option maxRecDepth 100000 in
theorem open_TermInside {H : Type} (enc : TypeId × Value → H) (base : Nat) (W : World) (hS : ShapesAt W) (v0 : Value) (d0 : DataW H) (p0 : List MemPlace) (h0 : DataW.Trod enc Tryd.prog W 0 (fun _ => true) true 22 v0 d0 p0) (ok0 : Value.okWide Tryd.prog W .any base 22 v0) :
    Calls Tryd.prog 6 #[v0] W fun e W' => e = .returned (.bool true) ∧ Below W.heap.size W W' := by
  obtain ⟨a, cap, ns, rfl, q1, q2, _, _, q3, _⟩ := open_nodes h0 ok0
  exact walk_TermInside W hS a cap ns q1 q2 q3

end Go.Proofs.YtglnnllodoljkaaDoor
