/- The statement AdjustCounts' arguments. -/
import Derived.Test.YtmjgcenhgpkhiaaDoorBkJ
import Derived.Test.YtmjgcenhgpkhiaaDoorEntZ
namespace Go.Proofs.YtmjgcenhgpkhiaaDoor
open Go.ChangeShapes Go.WideShapes Go.ChangeAt Go.RowKit
set_option linter.unusedVariables false
set_option maxRecDepth 100000

theorem open_AdjustCounts {H : Type} (enc : TypeId × Value → H) (base : Nat) (W : World) (hR : RulesAt W) (v0 : Value) (d0 : DataW H) (p0 : List MemPlace) (h0 : DataW.Trod enc Tryd.prog W 0 (fun _ => true) true 47 v0 d0 p0) (ok0 : Value.okWide Tryd.prog W .any base 47 v0)
    (v1 : Value) (d1 : DataW H) (p1 : List MemPlace) (h1 : DataW.Trod enc Tryd.prog W 0 (fun _ => true) true 47 v1 d1 p1) (ok1 : Value.okWide Tryd.prog W .any base 47 v1) :
    Calls Tryd.prog 5 #[v0, v1] W fun e W' => e = .returned (.bool true) ∧ Below W.heap.size W W' := by
  obtain ⟨aa, ca, a, rfl, ha, _⟩ := fls_arg h0 ok0
  obtain ⟨ab, cb, b, rfl, hb, _⟩ := fls_arg h1 ok1
  exact walk_AdjustCounts W hR aa ca a ab cb b ha hb

end Go.Proofs.YtmjgcenhgpkhiaaDoor
