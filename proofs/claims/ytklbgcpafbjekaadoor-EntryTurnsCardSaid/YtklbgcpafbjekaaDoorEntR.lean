/- The statement EntryFlows: its arguments opened. -/
import Derived.Test.YtklbgcpafbjekaaDoorEntQ
import Derived.Test.YtklbgcpafbjekaaDoorEntZ
namespace Go.Proofs.YtklbgcpafbjekaaDoor
open Go.ChangeShapes Go.WideShapes Go.ChangeAt Go.RowKit
set_option linter.unusedVariables false
set_option linter.unusedSimpArgs false

theorem CellsAre.ints {H : Type} {enc : TypeId × Value → H} {P : Program} {w : World} {base : Nat} {spare : Nat → Bool} {held : Bool} {t : TypeId} (hu : P.underlying t = some (.int .i64)) {n : Nat} {cs : List Value}
    (h : CellsAre (LeafOk enc P w base spare held) (List.replicate n t) cs) : ∃ xs : List Int, xs.length = n ∧ cs = xs.map (Value.int .i64) ∧ ∀ x ∈ xs, -9223372036854775808 ≤ x ∧ x ≤ 9223372036854775807 := by
  induction n generalizing cs with
  | zero => exact ⟨[], rfl, h.nil, by simp⟩
  | succ n ih =>
    obtain ⟨c, cs', rfl, hc, hcs⟩ := CellsAre.cons h
    obtain ⟨x, rfl, hx⟩ := hc.int hu
    obtain ⟨xs, h1, rfl, h3⟩ := ih hcs
    refine ⟨x :: xs, by simp [h1], rfl, fun y hy => ?_⟩
    rcases List.mem_cons.1 hy with rfl | hy
    · exact wf_bounds hx
    · exact h3 y hy

/-- A value that is an aggregate of n integers, as it came in. -/
theorem open_ints_agg {H : Type} {enc : TypeId × Value → H} {W : World} {base b2 : Nat} {spare : Nat → Bool} {held : Bool} {t : TypeId} {v : Value} {d : DataW H} {p : List MemPlace} {n : Nat} {r : Reach}
    (ha : (match Tryd.prog.underlying t with | some (.struct _) | some (.array _ _) => true | _ => false) = true) (hf : flat Tryd.prog 4 t = some (List.replicate n 3))
    (h : DataW.Trod enc Tryd.prog W base spare held t v d p) (hok : Value.okWide Tryd.prog W r b2 t v) :
    ∃ xs : List Int, xs.length = n ∧ v = .agg (xs.map (Value.int .i64)).toArray ∧ ∀ x ∈ xs, -9223372036854775808 ≤ x ∧ x ≤ 9223372036854775807 := by
  obtain ⟨cs, rfl⟩ := okWide_agg ha hok
  have := arg_leaves hf h
  obtain ⟨xs, h1, h2, h3⟩ := CellsAre.ints Tryd.underlying3 this
  refine ⟨xs, h1, ?_, h3⟩
  have : cs.toList = xs.map (Value.int .i64) := h2
  rw [← this]

theorem list3 {xs : List Int} (h : xs.length = 3) : ∃ a b c, xs = [a, b, c] := by
  match xs, h with
  | [a, b, c], _ => exact ⟨a, b, c, rfl⟩
theorem list2 {xs : List Int} (h : xs.length = 2) : ∃ a b, xs = [a, b] := by
  match xs, h with
  | [a, b], _ => exact ⟨a, b, rfl⟩

theorem open_EntryFlows {H : Type} (enc : TypeId × Value → H) (base : Nat) (W : World) (hR : RulesAt W) (v0 : Value) (d0 : DataW H) (p0 : List MemPlace) (h0 : DataW.Trod enc Tryd.prog W 0 (fun _ => true) true 23 v0 d0 p0) (ok0 : Value.okWide Tryd.prog W .any base 23 v0)
    (am : Int) (ham : -9223372036854775808 ≤ am ∧ am ≤ 9223372036854775807)
    (v2 : Value) (d2 : DataW H) (p2 : List MemPlace) (h2 : DataW.Trod enc Tryd.prog W 0 (fun _ => true) true 44 v2 d2 p2) (ok2 : Value.okWide Tryd.prog W .any base 44 v2) :
    Calls Tryd.prog 4 #[v0, .int .i64 am, v2] W fun e W' => e = .returned (.bool true) ∧ Below W.heap.size W W' := by
  obtain ⟨xs, hx, rfl, _⟩ := open_ints_agg (n := 3) (by kernel_rfl) (by kernel_rfl) h0 ok0
  obtain ⟨ys, hy, rfl, _⟩ := open_ints_agg (n := 2) (by kernel_rfl) (by kernel_rfl) h2 ok2
  obtain ⟨a, b, c, rfl⟩ := list3 hx
  obtain ⟨h, v, rfl⟩ := list2 hy
  exact walk_EntryFlows W hR a b c am h v ham

end Go.Proofs.YtklbgcpafbjekaaDoor
