/- The laws' arguments, opened. -/
import Derived.Test.YtfimgdjpnlcckaaFacQ
import Derived.OpenShut
import Derived.ShutString
import Derived.ChangeOld
namespace Go.Proofs.Ytfimgdjpnlcckaa
open Go.RowKit
set_option linter.unusedVariables false
set_option linter.unusedSimpArgs false

theorem wf_i64 {x : Int} (h : (Lit.int .i64 x).wf = true) : I64 x := wf_bounds h
section
open Go.ChangeShapes Go.WideShapes Go.ChangeAt
variable {H : Type} {enc : TypeId × Value → H} {base : Nat} {W : World}
theorem told_cells {spare : Nat → Bool} {held : Bool} {cs : List Value} (hl : CellsAre (LeafOk enc Try.prog W base spare held) [4, 3, 3, 3, 3, 3] cs) : ∃ x : Tl, cs = encT x ∧ x.Ok := by
  obtain ⟨c0, cs0, rfl, h0, hl⟩ := hl.cons
  obtain ⟨c1, cs1, rfl, h1, hl⟩ := hl.cons
  obtain ⟨c2, cs2, rfl, h2, hl⟩ := hl.cons
  obtain ⟨c3, cs3, rfl, h3, hl⟩ := hl.cons
  obtain ⟨c4, cs4, rfl, h4, hl⟩ := hl.cons
  obtain ⟨c5, cs5, rfl, h5, hl⟩ := hl.cons
  obtain rfl := hl.nil
  obtain ⟨b, rfl⟩ := h0.bool Try.underlying4
  obtain ⟨k, rfl, f1⟩ := h1.int Try.underlying3
  obtain ⟨d, rfl, f2⟩ := h2.int Try.underlying3
  obtain ⟨n, rfl, f3⟩ := h3.int Try.underlying3
  obtain ⟨m, rfl, f4⟩ := h4.int Try.underlying3
  obtain ⟨p, rfl, f5⟩ := h5.int Try.underlying3
  exact ⟨⟨b, k, d, n, m, p⟩, rfl, wf_i64 f1, wf_i64 f2, wf_i64 f3, wf_i64 f4, wf_i64 f5⟩
set_option maxRecDepth 100000 in
theorem told1_arg {v : Value} {d : DataW H} {p : List MemPlace} (h : DataW.Trod enc Try.prog W 0 (fun _ => true) true 31 v d p) (ok : Value.okWide Try.prog W .any base 31 v) :
    ∃ x : Tl, v = .agg (encT x).toArray ∧ x.Ok := by
  obtain ⟨cs, rfl⟩ := okWide_agg (by kernel_rfl) ok
  obtain ⟨x, e, hx⟩ := told_cells (arg_leaves (d := 4) (ls := [4, 3, 3, 3, 3, 3]) (by kernel_rfl) h)
  obtain ⟨l⟩ := cs
  simp only [Value.cells] at e
  subst e
  exact ⟨x, rfl, hx⟩
set_option maxRecDepth 100000 in
theorem told_arg {v : Value} {d : DataW H} {p : List MemPlace} (h : DataW.Trod enc Try.prog W 0 (fun _ => true) true 22 v d p) (ok : Value.okWide Try.prog W .any base 22 v) :
    ∃ (a : Option Addr) (cap : Nat) (l : List Tl), v = .slice a l.length cap ∧ l.length ≤ cap ∧ cap ≤ 9223372036854775807 ∧ (a = none → l = []) ∧ ToldAt W a l := by
  obtain ⟨a, len, cap, rfl⟩ := okWide_slice Try.underlying22 ok
  have hl := arg_leaves (d := 2) (ls := [22]) (by kernel_rfl) h
  obtain ⟨c0, cs0, e0, h0, hl⟩ := hl.cons
  obtain rfl := hl.nil
  simp only [Value.cells, List.cons.injEq, and_true] at e0
  subst e0
  have hf : flat Try.prog 4 31 = some [4, 3, 3, 3, 3, 3] := by kernel_rfl
  rcases h0.slice Try.underlying22 hf with e1 | ⟨x, len', cap', e1, g1, g2, hE⟩
  · cases e1
    exact ⟨none, 0, [], rfl, Nat.le_refl _, by omega, fun _ => rfl, RowsAt.nil _ _ _ _, fun x hx => by cases hx⟩
  · cases e1
    obtain ⟨f, hf1, hf2⟩ := elems_rows hE (by simp)
    obtain ⟨g, hg⟩ : ∃ g : Nat → Tl, ∀ i, i < len → f i = encT (g i) ∧ (g i).Ok := by
      have : ∀ i, ∃ z : Tl, i < len → f i = encT z ∧ z.Ok := fun i => by
        by_cases hi : i < len
        · obtain ⟨z, e, hz⟩ := told_cells (hf1 i hi)
          exact ⟨z, fun _ => ⟨e, hz⟩⟩
        · exact ⟨default, fun h => absurd h hi⟩
      exact ⟨fun i => (this i).choose, fun i => (this i).choose_spec⟩
    have hlen : ((List.range len).map g).length = len := by simp
    have hm : maxLen = 9223372036854775807 := rfl
    refine ⟨some x, cap, (List.range len).map g, by rw [hlen], by rw [hlen]; exact g1, by rw [← hm]; exact g2, (fun e => by cases e), ?_, fun y hy => ?_⟩
    · show RowsAt _ _ _ _ _
      rw [hlen]
      refine hf2.congr fun i hi => ?_
      rw [(hg i hi).1]
      unfold recF
      rw [List.getD_eq_getElem?_getD, List.getElem?_eq_getElem (by simpa using hi)]
      simp
    · obtain ⟨i, hi, rfl⟩ := List.mem_map.1 hy
      exact (hg i (List.mem_range.1 hi)).2

set_option maxRecDepth 100000 in
theorem two_arg {v : Value} {d : DataW H} {p : List MemPlace} (h : DataW.Trod enc Try.prog W 0 (fun _ => true) true 47 v d p) (ok : Value.okWide Try.prog W .any base 47 v) :
    ∃ d0 d1 : Int, v = .agg #[.int .i64 d0, .int .i64 d1] ∧ I64 d0 ∧ I64 d1 := by
  obtain ⟨cs, rfl⟩ := okWide_agg (by kernel_rfl) ok
  have hl := arg_leaves (d := 3) (ls := [3, 3]) (by kernel_rfl) h
  obtain ⟨c0, cs0, e0, h0, hl⟩ := hl.cons
  obtain ⟨d0, rfl, f0⟩ := h0.int Try.underlying3
  obtain ⟨c1, cs1, e1, h1, hl⟩ := hl.cons
  obtain ⟨d1, rfl, f1⟩ := h1.int Try.underlying3
  obtain rfl := hl.nil
  obtain ⟨l⟩ := cs
  simp only [Value.cells] at e0
  subst e0
  subst e1
  exact ⟨d0, d1, rfl, wf_i64 f0, wf_i64 f1⟩
set_option maxRecDepth 100000 in
theorem three_arg {v : Value} {d : DataW H} {p : List MemPlace} (h : DataW.Trod enc Try.prog W 0 (fun _ => true) true 61 v d p) (ok : Value.okWide Try.prog W .any base 61 v) :
    ∃ d0 d1 d2 : Int, v = .agg #[.int .i64 d0, .int .i64 d1, .int .i64 d2] ∧ I64 d0 ∧ I64 d1 ∧ I64 d2 := by
  obtain ⟨cs, rfl⟩ := okWide_agg (by kernel_rfl) ok
  have hl := arg_leaves (d := 3) (ls := [3, 3, 3]) (by kernel_rfl) h
  obtain ⟨c0, cs0, e0, h0, hl⟩ := hl.cons
  obtain ⟨d0, rfl, f0⟩ := h0.int Try.underlying3
  obtain ⟨c1, cs1, e1, h1, hl⟩ := hl.cons
  obtain ⟨d1, rfl, f1⟩ := h1.int Try.underlying3
  obtain ⟨c2, cs2, e2, h2, hl⟩ := hl.cons
  obtain ⟨d2, rfl, f2⟩ := h2.int Try.underlying3
  obtain rfl := hl.nil
  obtain ⟨l⟩ := cs
  simp only [Value.cells] at e0
  subst e0
  subst e1
  subst e2
  exact ⟨d0, d1, d2, rfl, wf_i64 f0, wf_i64 f1, wf_i64 f2⟩
set_option maxRecDepth 100000 in
theorem four_arg {v : Value} {d : DataW H} {p : List MemPlace} (h : DataW.Trod enc Try.prog W 0 (fun _ => true) true 53 v d p) (ok : Value.okWide Try.prog W .any base 53 v) :
    ∃ d0 d1 d2 d3 : Int, v = .agg #[.int .i64 d0, .int .i64 d1, .int .i64 d2, .int .i64 d3] ∧ I64 d0 ∧ I64 d1 ∧ I64 d2 ∧ I64 d3 := by
  obtain ⟨cs, rfl⟩ := okWide_agg (by kernel_rfl) ok
  have hl := arg_leaves (d := 3) (ls := [3, 3, 3, 3]) (by kernel_rfl) h
  obtain ⟨c0, cs0, e0, h0, hl⟩ := hl.cons
  obtain ⟨d0, rfl, f0⟩ := h0.int Try.underlying3
  obtain ⟨c1, cs1, e1, h1, hl⟩ := hl.cons
  obtain ⟨d1, rfl, f1⟩ := h1.int Try.underlying3
  obtain ⟨c2, cs2, e2, h2, hl⟩ := hl.cons
  obtain ⟨d2, rfl, f2⟩ := h2.int Try.underlying3
  obtain ⟨c3, cs3, e3, h3, hl⟩ := hl.cons
  obtain ⟨d3, rfl, f3⟩ := h3.int Try.underlying3
  obtain rfl := hl.nil
  obtain ⟨l⟩ := cs
  simp only [Value.cells] at e0
  subst e0
  subst e1
  subst e2
  subst e3
  exact ⟨d0, d1, d2, d3, rfl, wf_i64 f0, wf_i64 f1, wf_i64 f2, wf_i64 f3⟩
end

end Go.Proofs.Ytfimgdjpnlcckaa
