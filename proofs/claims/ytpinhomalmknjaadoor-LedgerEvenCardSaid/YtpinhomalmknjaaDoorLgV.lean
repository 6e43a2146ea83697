/- The statement LedgerEven's arguments. -/
import Derived.Test.YtpinhomalmknjaaDoorLgU
import Derived.Test.YtpinhomalmknjaaDoorEntZ
namespace Go.Proofs.YtpinhomalmknjaaDoor
open Go.ChangeShapes Go.WideShapes Go.ChangeAt Go.RowKit
set_option linter.unusedVariables false
set_option maxRecDepth 100000

theorem open_LedgerEven {H : Type} (enc : TypeId × Value → H) (base : Nat) (W : World) (hR : RulesAt W) (v0 : Value) (d0 : DataW H) (p0 : List MemPlace) (h0 : DataW.Trod enc Tryd.prog W 0 (fun _ => true) true 22 v0 d0 p0) (ok0 : Value.okWide Tryd.prog W .any base 22 v0) :
    Calls Tryd.prog 7 #[v0] W fun e W' => e = .returned (.bool true) ∧ Below W.heap.size W W' := by
  obtain ⟨a, len, cap, rfl⟩ := okWide_slice Tryd.underlying22 ok0
  have hl := arg_leaves (d := 2) (ls := [22]) (by kernel_rfl) h0
  obtain ⟨c0, cs0, e0, h1, hl⟩ := hl.cons
  obtain rfl := hl.nil
  simp only [Value.cells, List.cons.injEq, and_true] at e0
  subst e0
  obtain ⟨a', cap', ops, e1, q1, q2, q3, q4⟩ := open_ops_leaf h1
  rw [e1]
  exact walk_LedgerEven W hR a' cap' ops q1 (by omega)

end Go.Proofs.YtpinhomalmknjaaDoor
