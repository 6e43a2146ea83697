/- Nodes among the arguments, opened. -/
import Derived.Test.YtglnnllodoljkaaDoorTermP
import Derived.Test.YtglnnllodoljkaaDoorBase
namespace Go.Proofs.YtglnnllodoljkaaDoor
open Go.ChangeShapes Go.WideShapes Go.ChangeAt Go.RowKit
set_option linter.unusedVariables false
set_option linter.unusedSimpArgs false

section
variable {H : Type} {enc : TypeId × Value → H} {W : World} {base : Nat} {spare : Nat → Bool} {held : Bool}
theorem wfb {n : Int} (h : (Lit.int .i64 n).wf = true) : -9223372036854775808 ≤ n ∧ n ≤ 9223372036854775807 := wf_bounds h

theorem node_cells {cs : List Value} (h : CellsAre (LeafOk enc Tryd.prog W base spare held) [3, 3, 3, 3, 3] cs) : ∃ n : Nd, cs = [.int .i64 n.op, .int .i64 n.a, .int .i64 n.b, .int .i64 n.num, .int .i64 n.den] ∧ n.In ∧ (-9223372036854775808 ≤ n.op ∧ n.op ≤ 9223372036854775807) ∧ (-9223372036854775808 ≤ n.a ∧ n.a ≤ 9223372036854775807) ∧ (-9223372036854775808 ≤ n.b ∧ n.b ≤ 9223372036854775807) := by
  obtain ⟨c0, cs, rfl, h0, h⟩ := h.cons
  obtain ⟨c1, cs, rfl, h1, h⟩ := CellsAre.cons h
  obtain ⟨c2, cs, rfl, h2, h⟩ := CellsAre.cons h
  obtain ⟨c3, cs, rfl, h3, h⟩ := CellsAre.cons h
  obtain ⟨c4, cs, rfl, h4, h⟩ := CellsAre.cons h
  obtain rfl := CellsAre.nil h
  obtain ⟨n0, rfl, w0⟩ := h0.int Tryd.underlying3
  obtain ⟨n1, rfl, w1⟩ := h1.int Tryd.underlying3
  obtain ⟨n2, rfl, w2⟩ := h2.int Tryd.underlying3
  obtain ⟨n3, rfl, w3⟩ := h3.int Tryd.underlying3
  obtain ⟨n4, rfl, w4⟩ := h4.int Tryd.underlying3
  exact ⟨⟨n0, n1, n2, n3, n4⟩, rfl, ⟨(wf_bounds w3).1, (wf_bounds w3).2, (wf_bounds w4).1, (wf_bounds w4).2⟩, wf_bounds w0, wf_bounds w1, wf_bounds w2⟩

theorem list_of {α : Type} (d : α) {n : Nat} {p : Nat → α → Prop} (h : ∀ i, i < n → ∃ x, p i x) : ∃ xs : List α, xs.length = n ∧ ∀ i, i < n → p i (xs.getD i d) := by
  refine ⟨(List.range n).map fun i => if hi : i < n then (h i hi).choose else d, by simp, fun i hi => ?_⟩
  rw [List.getD_eq_getElem?_getD, List.getElem?_map, List.getElem?_range hi]
  simp only [Option.map_some, Option.getD_some, hi, dite_true]
  exact (h i hi).choose_spec

def NdsWf (ns : List Nd) : Prop := ∀ i, i < ns.length → (-9223372036854775808 ≤ (Nd.at ns i).op ∧ (Nd.at ns i).op ≤ 9223372036854775807) ∧ (-9223372036854775808 ≤ (Nd.at ns i).a ∧ (Nd.at ns i).a ≤ 9223372036854775807) ∧ (-9223372036854775808 ≤ (Nd.at ns i).b ∧ (Nd.at ns i).b ≤ 9223372036854775807)
/-- A list of nodes that came in. -/
theorem open_nodes_leaf {c : Value} (h : LeafOk enc Tryd.prog W base spare held 22 c) :
    ∃ a cap ns, c = .slice a (ns : List Nd).length cap ∧ NdsAt W a ns ∧ NdsIn ns ∧ NdsWf ns ∧ (a = none → ns.length = 0 ∧ cap = 0) ∧ ns.length ≤ cap ∧ cap ≤ maxLen := by
  rcases h.slice (d := 5) Tryd.underlying22 (ls := [3, 3, 3, 3, 3]) (by kernel_rfl) with rfl | ⟨x, len, cap, rfl, h1, h2, he⟩
  · exact ⟨none, 0, [], rfl, fun h => absurd h (by simp), fun i hi => absurd hi (by simp), fun i hi => absurd hi (by simp), fun _ => ⟨rfl, rfl⟩, by simp, by unfold maxLen; omega⟩
  · obtain ⟨f, hf, hrows⟩ := elems_rows he (by simp)
    obtain ⟨ns, rfl, hns⟩ := list_of (default : Nd) (n := len) (p := fun i n => f i = [.int .i64 n.op, .int .i64 n.a, .int .i64 n.b, .int .i64 n.num, .int .i64 n.den] ∧ n.In ∧ (-9223372036854775808 ≤ n.op ∧ n.op ≤ 9223372036854775807) ∧ (-9223372036854775808 ≤ n.a ∧ n.a ≤ 9223372036854775807) ∧ (-9223372036854775808 ≤ n.b ∧ n.b ≤ 9223372036854775807)) (fun i hi => node_cells (hf i hi))
    exact ⟨some x, cap, ns, rfl, hrows.congr fun i hi => (hns i hi).1, fun i hi => (hns i hi).2.1, fun i hi => (hns i hi).2.2, fun e => (by cases e), h1, h2⟩
set_option maxRecDepth 100000 in
theorem open_nodes {b2 : Nat} {v : Value} {d : DataW H} {p : List MemPlace} {r : Reach} (h : DataW.Trod enc Tryd.prog W base spare held 22 v d p) (hok : Value.okWide Tryd.prog W r b2 22 v) :
    ∃ a cap ns, v = .slice a (ns : List Nd).length cap ∧ NdsAt W a ns ∧ NdsIn ns ∧ NdsWf ns ∧ (a = none → ns.length = 0 ∧ cap = 0) ∧ ns.length ≤ cap ∧ cap ≤ maxLen := by
  have hl := arg_leaves (d := 1) (ls := [22]) (by kernel_rfl) h
  obtain ⟨c, cs, e, hc, hn⟩ := hl.cons
  obtain rfl := CellsAre.nil hn
  obtain ⟨a, cap, es, rfl, h1, h2⟩ := open_nodes_leaf hc
  refine ⟨a, cap, es, ?_, h1, h2⟩
  cases v
  case agg xs =>
    unfold Value.okWide at hok
    rw [Tryd.underlying22] at hok
    unfold Cell.okWide at hok
    rw [Tryd.underlying22] at hok
    simp only [] at hok
    unfold Cell.ok at hok
    rw [Tryd.underlying22] at hok
    simp at hok
  all_goals (simp [Value.cells] at e; try simp_all)
end

end Go.Proofs.YtglnnllodoljkaaDoor
