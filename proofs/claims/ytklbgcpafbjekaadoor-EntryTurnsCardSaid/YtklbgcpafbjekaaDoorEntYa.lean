/- The statement EntrySums: its arguments opened. -/
import Derived.Test.YtklbgcpafbjekaaDoorEntY
namespace Go.Proofs.YtklbgcpafbjekaaDoor
open Go.ChangeShapes Go.WideShapes Go.ChangeAt Go.RowKit
set_option linter.unusedVariables false
set_option linter.unusedSimpArgs false

theorem open_EntrySums {H : Type} (enc : TypeId × Value → H) (base : Nat) (W : World) (hR : RulesAt W) (v0 : Value) (d0 : DataW H) (p0 : List MemPlace) (h0 : DataW.Trod enc Tryd.prog W 0 (fun _ => true) true 23 v0 d0 p0) (ok0 : Value.okWide Tryd.prog W .any base 23 v0)
    (party : Int) (hp : -9223372036854775808 ≤ party ∧ party ≤ 9223372036854775807)
    (v2 : Value) (d2 : DataW H) (p2 : List MemPlace) (h2 : DataW.Trod enc Tryd.prog W 0 (fun _ => true) true 56 v2 d2 p2) (ok2 : Value.okWide Tryd.prog W .any base 56 v2) :
    Calls Tryd.prog 7 #[v0, .int .i64 party, v2] W fun e W' => e = .returned (.bool true) ∧ Below W.heap.size W W' := by
  obtain ⟨xs, hx, rfl, _⟩ := open_ints_agg (n := 3) (by kernel_rfl) (by kernel_rfl) h0 ok0
  obtain ⟨a, b, c, rfl⟩ := list3 hx
  obtain ⟨cs, rfl⟩ := okWide_agg (by kernel_rfl) ok2
  have hl := arg_leaves (d := 2) (ls := [51, 51]) (by kernel_rfl) h2
  obtain ⟨c0, cs', e, g0, hl⟩ := hl.cons
  obtain ⟨c1, cs'', e', g1, hl⟩ := CellsAre.cons hl
  obtain rfl := CellsAre.nil hl
  obtain ⟨x, cx, es, rfl, q1, _, q2, q3⟩ := open_entries_leaf g0
  obtain ⟨y, cy, fs, rfl, r1, _, r2, r3⟩ := open_entries_leaf g1
  unfold maxLen at q3 r3
  have he : cs = #[.slice x es.length cx, .slice y fs.length cy] := Array.toList_inj.1 (by rw [e'] at e; exact e)
  subst he
  exact walk_EntrySums W hR a b c party x y cx cy es fs q1 r1 (by omega) (by omega)

end Go.Proofs.YtklbgcpafbjekaaDoor
