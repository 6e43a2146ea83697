/- Entries among the arguments, opened; the statement EntryChecks' arguments. -/
import Derived.Test.YtklbgcpafbjekaaDoorEntS
namespace Go.Proofs.YtklbgcpafbjekaaDoor
open Go.ChangeShapes Go.WideShapes Go.ChangeAt Go.RowKit
set_option linter.unusedVariables false
set_option linter.unusedSimpArgs false

section
variable {H : Type} {enc : TypeId × Value → H} {W : World} {base : Nat} {spare : Nat → Bool} {held : Bool}

theorem line_cells {cs : List Value} (h : CellsAre (LeafOk enc Tryd.prog W base spare held) [3, 3, 3] cs) : ∃ l : Ln, cs = [.int .i64 l.p, .int .i64 l.c, .int .i64 l.a] ∧ l.wf := by
  obtain ⟨c0, cs, rfl, h0, h⟩ := h.cons
  obtain ⟨c1, cs, rfl, h1, h⟩ := CellsAre.cons h
  obtain ⟨c2, cs, rfl, h2, h⟩ := CellsAre.cons h
  obtain rfl := CellsAre.nil h
  obtain ⟨a, rfl, ha⟩ := h0.int Tryd.underlying3
  obtain ⟨b, rfl, hb⟩ := h1.int Tryd.underlying3
  obtain ⟨c, rfl, hc⟩ := h2.int Tryd.underlying3
  exact ⟨⟨a, b, c⟩, rfl, wf_bounds ha, wf_bounds hb, wf_bounds hc⟩

theorem list_of {α : Type} (d : α) {n : Nat} {p : Nat → α → Prop} (h : ∀ i, i < n → ∃ x, p i x) : ∃ xs : List α, xs.length = n ∧ ∀ i, i < n → p i (xs.getD i d) := by
  refine ⟨(List.range n).map fun i => if hi : i < n then (h i hi).choose else d, by simp, fun i hi => ?_⟩
  rw [List.getD_eq_getElem?_getD, List.getElem?_map, List.getElem?_range hi]
  simp only [Option.map_some, Option.getD_some, hi, dite_true]
  exact (h i hi).choose_spec

/-- A list of lines that came in. -/
theorem open_lines {c : Value} (h : LeafOk enc Tryd.prog W base spare held 24 c) :
    ∃ a cap ls, c = .slice a (ls : List Ln).length cap ∧ LnAt W a ls ∧ AllWf ls ∧ (a = none → ls.length = 0 ∧ cap = 0) ∧ ls.length ≤ 9223372036854775807 := by
  rcases h.slice (d := 3) Tryd.underlying24 (ls := [3, 3, 3]) (by kernel_rfl) with rfl | ⟨x, len, cap, rfl, h1, h2, he⟩
  · exact ⟨none, 0, [], rfl, fun h => absurd h (by simp), fun l hl => (by cases hl), fun _ => ⟨rfl, rfl⟩, by simp⟩
  · obtain ⟨f, hf, hrows⟩ := elems_rows he (by simp)
    obtain ⟨ls, rfl, hls⟩ := list_of (⟨0, 0, 0⟩ : Ln) (n := len) (p := fun i l => f i = [.int .i64 l.p, .int .i64 l.c, .int .i64 l.a] ∧ l.wf) (fun i hi => line_cells (hf i hi))
    refine ⟨some x, cap, ls, rfl, ?_, fun l hl => ?_, fun e => (by cases e), by unfold maxLen at h2; omega⟩
    · exact rows_ln (hrows.congr fun i hi => (hls i hi).1)
    · obtain ⟨i, hi, rfl⟩ := List.getElem_of_mem hl
      have := (hls i hi).2
      rwa [List.getD_eq_getElem?_getD, List.getElem?_eq_getElem hi] at this

theorem entry_cells {cs : List Value} (h : CellsAre (LeafOk enc Tryd.prog W base spare held) [3, 3, 3, 3, 3, 3, 24] cs) :
    ∃ e : En, cs = e.cs ∧ LnAt W e.a e.ls ∧ AllWf e.ls ∧ (e.a = none → e.ls.length = 0 ∧ e.cap = 0) ∧ e.ls.length ≤ 9223372036854775807 := by
  obtain ⟨c0, cs, rfl, h0, h⟩ := h.cons
  obtain ⟨c1, cs, rfl, h1, h⟩ := CellsAre.cons h
  obtain ⟨c2, cs, rfl, h2, h⟩ := CellsAre.cons h
  obtain ⟨c3, cs, rfl, h3, h⟩ := CellsAre.cons h
  obtain ⟨c4, cs, rfl, h4, h⟩ := CellsAre.cons h
  obtain ⟨c5, cs, rfl, h5, h⟩ := CellsAre.cons h
  obtain ⟨c6, cs, rfl, h6, h⟩ := CellsAre.cons h
  obtain rfl := CellsAre.nil h
  obtain ⟨n0, rfl, _⟩ := h0.int Tryd.underlying3
  obtain ⟨n1, rfl, _⟩ := h1.int Tryd.underlying3
  obtain ⟨n2, rfl, _⟩ := h2.int Tryd.underlying3
  obtain ⟨n3, rfl, _⟩ := h3.int Tryd.underlying3
  obtain ⟨n4, rfl, _⟩ := h4.int Tryd.underlying3
  obtain ⟨n5, rfl, _⟩ := h5.int Tryd.underlying3
  obtain ⟨a, cap, ls, rfl, q1, q2, q3, q4⟩ := open_lines h6
  exact ⟨⟨⟨n0, n1, n2, n3, n4, n5⟩, a, cap, ls⟩, rfl, q1, q2, q3, q4⟩

theorem open_entry {b2 : Nat} {v : Value} {d : DataW H} {p : List MemPlace} {r : Reach} (h : DataW.Trod enc Tryd.prog W base spare held 26 v d p) (hok : Value.okWide Tryd.prog W r b2 26 v) :
    ∃ e : En, v = entV e.s e.a e.ls.length e.cap ∧ LnAt W e.a e.ls ∧ AllWf e.ls ∧ (e.a = none → e.ls.length = 0 ∧ e.cap = 0) ∧ e.ls.length ≤ 9223372036854775807 := by
  obtain ⟨cs, rfl⟩ := okWide_agg (by kernel_rfl) hok
  obtain ⟨e, he, q⟩ := entry_cells (arg_leaves (d := 4) (ls := [3, 3, 3, 3, 3, 3, 24]) (by kernel_rfl) h)
  have he' : cs.toList = e.cs := he
  refine ⟨e, ?_, q⟩
  unfold entV
  congr 1
  exact Array.toList_inj.1 (by rw [he']; rfl)

/-- An entry in memory, of however many lines. -/
structure EnIn (w : World) (e : En) : Prop where
  ln : LnAt w e.a e.ls
  wf : AllWf e.ls
  nil : e.a = none → e.ls.length = 0 ∧ e.cap = 0
  big : e.ls.length ≤ 9223372036854775807
theorem EnIn.after {w w' : World} {e : En} (h : EnIn w e) (hb : Below w.heap.size w w') : EnIn w' e := ⟨h.ln.after hb, h.wf, h.nil, h.big⟩
def EnsIn (w : World) (a : Option Addr) (es : List En) : Prop := RowsAt w a es.length 7 (En.row es) ∧ ∀ i, i < es.length → EnIn w (En.at es i)
theorem EnsIn.after {w w' : World} {a : Option Addr} {es : List En} (h : EnsIn w a es) (hb : Below w.heap.size w w') : EnsIn w' a es := ⟨h.1.after hb, fun i hi => (h.2 i hi).after hb⟩

theorem open_entries_leaf {c : Value} (h : LeafOk enc Tryd.prog W base spare held 51 c) :
    ∃ a cap es, c = .slice a (es : List En).length cap ∧ EnsIn W a es ∧ (a = none → es.length = 0 ∧ cap = 0) ∧ es.length ≤ cap ∧ cap ≤ maxLen := by
  rcases h.slice (d := 5) Tryd.underlying51 (ls := [3, 3, 3, 3, 3, 3, 24]) (by kernel_rfl) with rfl | ⟨x, len, cap, rfl, h1, h2, he⟩
  · exact ⟨none, 0, [], rfl, ⟨fun h => absurd h (by simp), fun i hi => absurd hi (by simp)⟩, fun _ => ⟨rfl, rfl⟩, by simp, by unfold maxLen; omega⟩
  · obtain ⟨f, hf, hrows⟩ := elems_rows he (by simp)
    obtain ⟨es, rfl, hes⟩ := list_of (⟨zero6, none, 0, []⟩ : En) (n := len) (p := fun i e => f i = e.cs ∧ EnIn W e) (fun i hi => by
      obtain ⟨e, h1, h2, h3, h4, h5⟩ := entry_cells (hf i hi)
      exact ⟨e, h1, h2, h3, h4, h5⟩)
    exact ⟨some x, cap, es, rfl, ⟨hrows.congr fun i hi => (hes i hi).1, fun i hi => (hes i hi).2⟩, fun e => (by cases e), h1, h2⟩
end

theorem open_EntryChecks {H : Type} (enc : TypeId × Value → H) (base : Nat) (W : World) (hR : RulesAt W) (v0 : Value) (d0 : DataW H) (p0 : List MemPlace) (h0 : DataW.Trod enc Tryd.prog W 0 (fun _ => true) true 26 v0 d0 p0) (ok0 : Value.okWide Tryd.prog W .any base 26 v0)
    (no : Int) (hno : -9223372036854775808 ≤ no ∧ no ≤ 9223372036854775807) :
    Calls Tryd.prog 3 #[v0, .int .i64 no] W fun e W' => e = .returned (.bool true) ∧ Below W.heap.size W W' := by
  obtain ⟨e, rfl, q1, q2, q3, q4⟩ := open_entry h0 ok0
  exact walk_EntryChecks W hR e.s e.a e.cap e.ls no q1 q2 q3 q4

end Go.Proofs.YtklbgcpafbjekaaDoor
