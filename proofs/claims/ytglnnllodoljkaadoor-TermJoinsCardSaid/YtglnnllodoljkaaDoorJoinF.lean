/- TermJoins' arguments. -/
import Derived.Test.YtglnnllodoljkaaDoorJoinE
namespace Go.Proofs.YtglnnllodoljkaaDoor
open Go.ChangeShapes Go.WideShapes Go.ChangeAt Go.RowKit
set_option linter.unusedVariables false
set_option linter.unusedSimpArgs false

section
variable {H : Type} {enc : TypeId × Value → H} {W : World} {base : Nat} {spare : Nat → Bool} {held : Bool}
set_option maxRecDepth 100000 in
theorem open_node {b2 : Nat} {v : Value} {d : DataW H} {p : List MemPlace} {r : Reach} (h : DataW.Trod enc Tryd.prog W base spare held 47 v d p) (hok : Value.okWide Tryd.prog W r b2 47 v) :
    ∃ n : Nd, v = n.val ∧ n.In := by
  obtain ⟨n, he, q, _⟩ := node_cells (arg_leaves (d := 3) (ls := [3, 3, 3, 3, 3]) (by kernel_rfl) h)
  obtain ⟨cs, rfl⟩ := okWide_agg (by kernel_rfl) hok
  refine ⟨n, ?_, q⟩
  unfold Nd.val
  congr 1
  apply Array.ext'
  exact he

theorem part_cells {cs : List Value} (h : CellsAre (LeafOk enc Tryd.prog W base spare held) [22] cs) : ∃ p : Pt, cs = [.slice p.a p.ns.length p.cap] ∧ PtIn W p ∧ NdsIn p.ns := by
  obtain ⟨c, cs, rfl, h0, h⟩ := h.cons
  obtain rfl := CellsAre.nil h
  obtain ⟨a, cap, ns, rfl, q1, q2, _, q3, q4, _⟩ := open_nodes_leaf h0
  exact ⟨⟨a, cap, ns⟩, rfl, ⟨q1, q3, q4⟩, q2⟩

theorem open_parts_leaf {c : Value} (h : LeafOk enc Tryd.prog W base spare held 48 c) :
    ∃ a cap ps, c = .slice a (ps : List Pt).length cap ∧ PtsAt W a ps ∧ ∀ i, i < ps.length → NdsIn (Pt.at ps i).ns := by
  rcases h.slice (d := 5) Tryd.underlying48 (ls := [22]) (by kernel_rfl) with rfl | ⟨x, len, cap, rfl, h1, h2, he⟩
  · exact ⟨none, 0, [], rfl, ⟨fun h => absurd h (by simp), fun i hi => absurd hi (by simp)⟩, fun i hi => absurd hi (by simp)⟩
  · obtain ⟨f, hf, hrows⟩ := elems_rows he (by simp)
    obtain ⟨ps, rfl, hps⟩ := list_of (default : Pt) (n := len) (p := fun i p => f i = [.slice p.a p.ns.length p.cap] ∧ PtIn W p ∧ NdsIn p.ns) (fun i hi => part_cells (hf i hi))
    exact ⟨some x, cap, ps, rfl, ⟨hrows.congr fun i hi => (hps i hi).1, fun i hi => (hps i hi).2.1⟩, fun i hi => (hps i hi).2.2⟩
set_option maxRecDepth 100000 in
theorem open_parts {b2 : Nat} {v : Value} {d : DataW H} {p : List MemPlace} {r : Reach} (h : DataW.Trod enc Tryd.prog W base spare held 48 v d p) (hok : Value.okWide Tryd.prog W r b2 48 v) :
    ∃ a cap ps, v = .slice a (ps : List Pt).length cap ∧ PtsAt W a ps ∧ ∀ i, i < ps.length → NdsIn (Pt.at ps i).ns := by
  have hl := arg_leaves (d := 1) (ls := [48]) (by kernel_rfl) h
  obtain ⟨c, cs, e, hc, hn⟩ := hl.cons
  obtain rfl := CellsAre.nil hn
  obtain ⟨a, cap, es, rfl, h1, h2⟩ := open_parts_leaf hc
  refine ⟨a, cap, es, ?_, h1, h2⟩
  cases v
  case agg xs =>
    unfold Value.okWide at hok
    rw [Tryd.underlying48] at hok
    unfold Cell.okWide at hok
    rw [Tryd.underlying48] at hok
    simp only [] at hok
    unfold Cell.ok at hok
    rw [Tryd.underlying48] at hok
    simp at hok
  all_goals (simp [Value.cells] at e; try simp_all)
end
set_option maxRecDepth 100000 in
theorem open_TermJoins {H : Type} (enc : TypeId × Value → H) (base : Nat) (W : World) (hS : ShapesAt W) (v0 : Value) (d0 : DataW H) (p0 : List MemPlace) (h0 : DataW.Trod enc Tryd.prog W 0 (fun _ => true) true 47 v0 d0 p0) (ok0 : Value.okWide Tryd.prog W .any base 47 v0)
    (v1 : Value) (d1 : DataW H) (p1 : List MemPlace) (h1 : DataW.Trod enc Tryd.prog W 0 (fun _ => true) true 48 v1 d1 p1) (ok1 : Value.okWide Tryd.prog W .any base 48 v1) :
    Calls Tryd.prog 7 #[v0, v1] W fun e W' => e = .returned (.bool true) ∧ Below W.heap.size W W' := by
  obtain ⟨n, rfl, hn⟩ := open_node h0 ok0
  obtain ⟨a, cap, ps, rfl, q1, q2⟩ := open_parts h1 ok1
  exact walk_TermJoins W hS n hn a cap ps q1 q2

end Go.Proofs.YtglnnllodoljkaaDoor
