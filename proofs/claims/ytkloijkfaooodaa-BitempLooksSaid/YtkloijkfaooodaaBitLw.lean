/- The statement BitempLooks: the walk, for its arguments. -/
import Derived.Test.YtkloijkfaooodaaBitLk
import Derived.Test.YtkloijkfaooodaaBitO
namespace Go.Proofs.Ytkloijkfaooodaa
open Go.RowKit Go.Shelf
set_option linter.unusedVariables false

set_option maxRecDepth 100000 in
open Go.ChangeShapes Go.WideShapes Go.ChangeAt in
theorem walk_BitempLooks {H : Type} (enc : TypeId × Value → H) (base : Nat) (W : World) (v : Value) (d : DataW H) (p : List MemPlace) (h : DataW.Trod enc Try.prog W 0 (fun _ => true) true 22 v d p) (ok : Value.okWide Try.prog W .any base 22 v)
    (v1 : Value) (d1 : DataW H) (p1 : List MemPlace) (h1 : DataW.Trod enc Try.prog W 0 (fun _ => true) true 26 v1 d1 p1) (ok1 : Value.okWide Try.prog W .any base 26 v1)
    (t : Int) (ht : (Lit.int .i64 t).wf = true)
    {ts : List TypeId} {ds : List (DataW H)} (hsz : (DataW.weightsEach Try.prog (22 :: ts) (d :: ds)).all (· ≤ reachBytes) = true) :
    Calls Try.prog 7 #[v, v1, .int .i64 t] W fun e w' => e = .returned (.bool true) ∧ Below W.heap.size W w' := by
  obtain ⟨a, cap, l, rfl, hl, hc, _, hT⟩ := ops_arg h ok
  obtain ⟨x, rfl, hx⟩ := ver_arg h1 ok1
  have hr := slice_reach Try.underlying22 h hsz (j := 0) rfl rfl
  rw [bytesOp] at hr
  exact looks_law a cap l (by omega) x t W hT

end Go.Proofs.Ytkloijkfaooodaa
