/- The statement LedgerNil's arguments. -/
import Derived.Test.YtpinhomalmknjaaDoorLgP
import Derived.Test.YtpinhomalmknjaaDoorEntZ
namespace Go.Proofs.YtpinhomalmknjaaDoor
open Go.ChangeShapes Go.WideShapes Go.ChangeAt Go.RowKit
set_option linter.unusedVariables false
set_option maxRecDepth 100000

theorem wf_back {n : Int} (h : -9223372036854775808 ≤ n ∧ n ≤ 9223372036854775807) : (Lit.int .i64 n).wf = true := by
  simpa [Lit.wf, IntKind.min, IntKind.max, IntKind.signed, IntKind.bits] using h
theorem open_LedgerNil {H : Type} (enc : TypeId × Value → H) (base : Nat) (W : World) (hR : RulesAt W) (v0 : Value) (d0 : DataW H) (p0 : List MemPlace) (h0 : DataW.Trod enc Tryd.prog W 0 (fun _ => true) true 44 v0 d0 p0) (ok0 : Value.okWide Tryd.prog W .any base 44 v0)
    (no : Int) (hno : -9223372036854775808 ≤ no ∧ no ≤ 9223372036854775807) :
    Calls Tryd.prog 4 #[v0, .int .i64 no] W fun e W' => e = .returned (.bool true) ∧ Below W.heap.size W W' := by
  obtain ⟨o, rfl, q⟩ := open_op h0 ok0
  exact walk_LedgerNil W hR o q no (wf_back hno)

end Go.Proofs.YtpinhomalmknjaaDoor
