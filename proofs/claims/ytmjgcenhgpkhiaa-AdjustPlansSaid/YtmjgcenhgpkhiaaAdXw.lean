/- The statement AdjustPlans: the walk, for its arguments. -/
import Derived.Test.YtmjgcenhgpkhiaaAdX
namespace Go.Proofs.Ytmjgcenhgpkhiaa
open Go.RowKit Go.Shelf
set_option linter.unusedVariables false

set_option maxRecDepth 100000 in
open Go.ChangeShapes Go.WideShapes Go.ChangeAt in
theorem walk_AdjustPlans {H : Type} (enc : TypeId × Value → H) (base : Nat) (W : World) (v : Value) (d : DataW H) (p : List MemPlace) (h : DataW.Trod enc Try.prog W 0 (fun _ => true) true 22 v d p) (ok : Value.okWide Try.prog W .any base 22 v)
    (v1 : Value) (d1 : DataW H) (p1 : List MemPlace) (h1 : DataW.Trod enc Try.prog W 0 (fun _ => true) true 23 v1 d1 p1) (ok1 : Value.okWide Try.prog W .any base 23 v1) :
    Calls Try.prog 3 #[v, v1] W fun e w' => e = .returned (.bool true) ∧ Below W.heap.size W w' := by
  obtain ⟨a, cap, l, rfl, hS, hw⟩ := lvs_arg h ok
  obtain ⟨a', cap', f, rfl, hS', _⟩ := fls_arg h1 ok1
  have hm : maxLen = 9223372036854775807 := rfl
  exact plans_law a cap l a' cap' f (by have := hS.le; have := hS.max; omega) (by have := hS'.le; have := hS'.max; omega) W hS hS' hw

end Go.Proofs.Ytmjgcenhgpkhiaa
