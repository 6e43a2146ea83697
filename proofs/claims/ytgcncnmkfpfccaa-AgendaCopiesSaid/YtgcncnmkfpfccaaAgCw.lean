/- The statement AgendaCopies: the walk, for its arguments. -/
import Derived.Test.YtgcncnmkfpfccaaAgCd
namespace Go.Proofs.Ytgcncnmkfpfccaa
open Go.RowKit Go.Shelf
set_option linter.unusedVariables false

set_option maxRecDepth 100000 in
open Go.ChangeShapes Go.WideShapes Go.ChangeAt in
theorem walk_AgendaCopies {H : Type} (enc : TypeId × Value → H) (base : Nat) (W : World) (v : Value) (d : DataW H) (p : List MemPlace) (h : DataW.Trod enc Try.prog W 0 (fun _ => true) true 22 v d p) (ok : Value.okWide Try.prog W .any base 22 v)
    (v1 : Value) (d1 : DataW H) (p1 : List MemPlace) (h1 : DataW.Trod enc Try.prog W 0 (fun _ => true) true 22 v1 d1 p1) (ok1 : Value.okWide Try.prog W .any base 22 v1) :
    Calls Try.prog 7 #[v, v1] W fun e w' => e = .returned (.bool true) ∧ Below W.heap.size W w' := by
  obtain ⟨a, cap, l, rfl, hl, hc, _, hT⟩ := opqs_arg h ok
  obtain ⟨a', cap', l', rfl, hl', hc', _, hT'⟩ := opqs_arg h1 ok1
  exact copies_law a cap l a' cap' l' (by omega) (by omega) W hT hT'

end Go.Proofs.Ytgcncnmkfpfccaa
