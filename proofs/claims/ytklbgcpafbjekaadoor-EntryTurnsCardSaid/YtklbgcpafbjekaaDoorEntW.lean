/- The statement EntryTotals: its arguments opened. -/
import Derived.Test.YtklbgcpafbjekaaDoorEntV
namespace Go.Proofs.YtklbgcpafbjekaaDoor
open Go.ChangeShapes Go.WideShapes Go.ChangeAt Go.RowKit
set_option linter.unusedVariables false
set_option linter.unusedSimpArgs false

/-- An argument that is a slice of entries. -/
theorem open_entries {H : Type} {enc : TypeId × Value → H} {W : World} {b2 : Nat} {v : Value} {d : DataW H} {p : List MemPlace} {r : Reach} (h : DataW.Trod enc Tryd.prog W 0 (fun _ => true) true 51 v d p) (hok : Value.okWide Tryd.prog W r b2 51 v) :
    ∃ a cap es, v = .slice a (es : List En).length cap ∧ EnsIn W a es ∧ (a = none → es.length = 0 ∧ cap = 0) ∧ es.length ≤ 9223372036854775807 := by
  have hl := arg_leaves (d := 1) (ls := [51]) (by kernel_rfl) h
  obtain ⟨c, cs, e, hc, hn⟩ := hl.cons
  obtain rfl := CellsAre.nil hn
  obtain ⟨a, cap, es, rfl, h1, h2, h3, h4⟩ := open_entries_leaf hc
  unfold maxLen at h4
  refine ⟨a, cap, es, ?_, h1, h2, by omega⟩
  cases v
  case agg xs =>
    unfold Value.okWide at hok
    rw [Tryd.underlying51] at hok
    unfold Cell.okWide at hok
    rw [Tryd.underlying51] at hok
    simp only [] at hok
    unfold Cell.ok at hok
    rw [Tryd.underlying51] at hok
    simp at hok
  all_goals (simp [Value.cells] at e; try simp_all)

theorem open_EntryTotals {H : Type} (enc : TypeId × Value → H) (base : Nat) (W : World) (hR : RulesAt W) (v0 : Value) (d0 : DataW H) (p0 : List MemPlace) (h0 : DataW.Trod enc Tryd.prog W 0 (fun _ => true) true 23 v0 d0 p0) (ok0 : Value.okWide Tryd.prog W .any base 23 v0)
    (party : Int) (hp : -9223372036854775808 ≤ party ∧ party ≤ 9223372036854775807)
    (v2 : Value) (d2 : DataW H) (p2 : List MemPlace) (h2 : DataW.Trod enc Tryd.prog W 0 (fun _ => true) true 51 v2 d2 p2) (ok2 : Value.okWide Tryd.prog W .any base 51 v2) :
    Calls Tryd.prog 6 #[v0, .int .i64 party, v2] W fun e W' => e = .returned (.bool true) ∧ Below W.heap.size W W' := by
  obtain ⟨xs, hx, rfl, _⟩ := open_ints_agg (n := 3) (by kernel_rfl) (by kernel_rfl) h0 ok0
  obtain ⟨a, b, c, rfl⟩ := list3 hx
  obtain ⟨x, cap, es, rfl, g1, g2, g3⟩ := open_entries h2 ok2
  exact walk_EntryTotals W hR a b c party x cap es g1 g2 g3

end Go.Proofs.YtklbgcpafbjekaaDoor
