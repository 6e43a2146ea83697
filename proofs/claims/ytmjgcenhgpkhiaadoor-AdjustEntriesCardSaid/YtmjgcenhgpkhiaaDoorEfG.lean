/- The statement AdjustEntries' arguments. -/
import Derived.Test.YtmjgcenhgpkhiaaDoorEfF
import Derived.Test.YtmjgcenhgpkhiaaDoorEntZ
namespace Go.Proofs.YtmjgcenhgpkhiaaDoor
open Go.ChangeShapes Go.WideShapes Go.ChangeAt Go.RowKit
set_option linter.unusedVariables false
set_option linter.unusedSimpArgs false
set_option maxRecDepth 100000

def rowLn (ls : List Ln) (i : Nat) : List Value := [.int .i64 (Ln.at ls i).p, .int .i64 (Ln.at ls i).c, .int .i64 (Ln.at ls i).a]
theorem lines_rows {w : World} {a : Option Addr} {ls : List Ln} (h : RowsAt w a ls.length 3 (rowLn ls)) : LnAt w a ls := fun hl => by
  obtain ⟨b, o, e, hc⟩ := h hl
  exact ⟨b, o, e, fun i hi => ⟨hc i hi 0 _ rfl, hc i hi 1 _ rfl, hc i hi 2 _ rfl⟩⟩

section
variable {H : Type} {enc : TypeId × Value → H} {W : World} {base : Nat} {spare : Nat → Bool} {held : Bool}

theorem line_cells {cs : List Value} (h : CellsAre (LeafOk enc Tryd.prog W base spare held) [3, 3, 3] cs) : ∃ l : Ln, cs = [.int .i64 l.p, .int .i64 l.c, .int .i64 l.a] ∧ l.wf := by
  obtain ⟨c0, cs, rfl, h0, h⟩ := h.cons
  obtain ⟨c1, cs, rfl, h1, h⟩ := CellsAre.cons h
  obtain ⟨c2, cs, rfl, h2, h⟩ := CellsAre.cons h
  obtain rfl := CellsAre.nil h
  obtain ⟨a, rfl, ha⟩ := h0.int Tryd.underlying3
  obtain ⟨b, rfl, hb⟩ := h1.int Tryd.underlying3
  obtain ⟨c, rfl, hc⟩ := h2.int Tryd.underlying3
  exact ⟨⟨a, b, c⟩, rfl, wf_bounds ha, wf_bounds hb, wf_bounds hc⟩

theorem list_of {α : Type} (d : α) {n : Nat} {p : Nat → α → Prop} (h : ∀ i, i < n → ∃ x, p i x) : ∃ xs : List α, xs.length = n ∧ ∀ i, i < n → p i (xs.getD i d) := by
  refine ⟨(List.range n).map fun i => if hi : i < n then (h i hi).choose else d, by simp, fun i hi => ?_⟩
  rw [List.getD_eq_getElem?_getD, List.getElem?_map, List.getElem?_range hi]
  simp only [Option.map_some, Option.getD_some, hi, dite_true]
  exact (h i hi).choose_spec

/-- A list of lines that came in. -/
theorem open_lines {c : Value} (h : LeafOk enc Tryd.prog W base spare held 24 c) :
    ∃ a cap ls, c = .slice a (ls : List Ln).length cap ∧ LnAt W a ls ∧ AllWf ls ∧ (a = none → ls.length = 0 ∧ cap = 0) ∧ ls.length ≤ 9223372036854775807 := by
  rcases h.slice (d := 3) Tryd.underlying24 (ls := [3, 3, 3]) (by kernel_rfl) with rfl | ⟨x, len, cap, rfl, h1, h2, he⟩
  · exact ⟨none, 0, [], rfl, fun h => absurd h (by simp), fun l hl => (by cases hl), fun _ => ⟨rfl, rfl⟩, by simp⟩
  · obtain ⟨f, hf, hrows⟩ := elems_rows he (by simp)
    obtain ⟨ls, rfl, hls⟩ := list_of (⟨0, 0, 0⟩ : Ln) (n := len) (p := fun i l => f i = [.int .i64 l.p, .int .i64 l.c, .int .i64 l.a] ∧ l.wf) (fun i hi => line_cells (hf i hi))
    refine ⟨some x, cap, ls, rfl, ?_, fun l hl => ?_, fun e => (by cases e), by unfold maxLen at h2; omega⟩
    · exact lines_rows (hrows.congr fun i hi => (hls i hi).1)
    · obtain ⟨i, hi, rfl⟩ := List.getElem_of_mem hl
      have := (hls i hi).2
      rwa [List.getD_eq_getElem?_getD, List.getElem?_eq_getElem hi] at this

theorem entry_cells {cs : List Value} (h : CellsAre (LeafOk enc Tryd.prog W base spare held) [3, 3, 3, 3, 3, 3, 24] cs) :
    ∃ e : En, cs = e.cs ∧ LnAt W e.a e.ls ∧ AllWf e.ls ∧ (e.a = none → e.ls.length = 0 ∧ e.cap = 0) ∧ e.ls.length ≤ 9223372036854775807 ∧ (Lit.int .i64 e.s.ref).wf = true := by
  obtain ⟨c0, cs, rfl, h0, h⟩ := h.cons
  obtain ⟨c1, cs, rfl, h1, h⟩ := CellsAre.cons h
  obtain ⟨c2, cs, rfl, h2, h⟩ := CellsAre.cons h
  obtain ⟨c3, cs, rfl, h3, h⟩ := CellsAre.cons h
  obtain ⟨c4, cs, rfl, h4, h⟩ := CellsAre.cons h
  obtain ⟨c5, cs, rfl, h5, h⟩ := CellsAre.cons h
  obtain ⟨c6, cs, rfl, h6, h⟩ := CellsAre.cons h
  obtain rfl := CellsAre.nil h
  obtain ⟨n0, rfl, _⟩ := h0.int Tryd.underlying3
  obtain ⟨n1, rfl, _⟩ := h1.int Tryd.underlying3
  obtain ⟨n2, rfl, _⟩ := h2.int Tryd.underlying3
  obtain ⟨n3, rfl, _⟩ := h3.int Tryd.underlying3
  obtain ⟨n4, rfl, _⟩ := h4.int Tryd.underlying3
  obtain ⟨n5, rfl, r5⟩ := h5.int Tryd.underlying3
  obtain ⟨a, cap, ls, rfl, q1, q2, q3, q4⟩ := open_lines h6
  exact ⟨⟨⟨n0, n1, n2, n3, n4, n5⟩, a, cap, ls⟩, rfl, q1, q2, q3, q4, r5⟩

theorem open_entry {b2 : Nat} {v : Value} {d : DataW H} {p : List MemPlace} {r : Reach} (h : DataW.Trod enc Tryd.prog W base spare held 26 v d p) (hok : Value.okWide Tryd.prog W r b2 26 v) :
    ∃ e : En, v = entV e.s e.a e.ls.length e.cap ∧ LnAt W e.a e.ls ∧ AllWf e.ls ∧ (e.a = none → e.ls.length = 0 ∧ e.cap = 0) ∧ e.ls.length ≤ 9223372036854775807 ∧ (Lit.int .i64 e.s.ref).wf = true := by
  obtain ⟨cs, rfl⟩ := okWide_agg (by kernel_rfl) hok
  obtain ⟨e, he, q⟩ := entry_cells (arg_leaves (d := 4) (ls := [3, 3, 3, 3, 3, 3, 24]) (by kernel_rfl) h)
  have he' : cs.toList = e.cs := he
  refine ⟨e, ?_, q⟩
  unfold entV
  congr 1
  exact Array.toList_inj.1 (by rw [he']; rfl)

end

def Cg.Ok (x : Cg) : Prop := -9223372036854775808 ≤ x.n ∧ x.n ≤ 9223372036854775807
open Go.ChangeShapes Go.WideShapes Go.ChangeAt in
theorem cg_cells {H : Type} {enc : TypeId × Value → H} {base : Nat} {W : World} {spare : Nat → Bool} {held : Bool} {cs : List Value} (hl : CellsAre (LeafOk enc Tryd.prog W base spare held) [3, 3, 3, 3, 3] cs) : ∃ x : Cg, cs = encG x ∧ Cg.Ok x := by
  (obtain ⟨c0, cs0, rfl, h0, hl⟩ := hl.cons; obtain ⟨c1, cs1, rfl, h1, hl⟩ := hl.cons; obtain ⟨c2, cs2, rfl, h2, hl⟩ := hl.cons; obtain ⟨c3, cs3, rfl, h3, hl⟩ := hl.cons; obtain ⟨c4, cs4, rfl, h4, hl⟩ := hl.cons; obtain rfl := hl.nil; obtain ⟨a, rfl, f0⟩ := h0.int Tryd.underlying3; obtain ⟨d, rfl, f1⟩ := h1.int Tryd.underlying3; obtain ⟨e, rfl, f2⟩ := h2.int Tryd.underlying3; obtain ⟨f, rfl, f3⟩ := h3.int Tryd.underlying3; obtain ⟨g, rfl, f4⟩ := h4.int Tryd.underlying3; exact ⟨⟨a, d, e, f, g⟩, rfl, wf_bounds f4⟩)
set_option maxRecDepth 100000 in
open Go.ChangeShapes Go.WideShapes Go.ChangeAt in
theorem cgs_arg {H : Type} {enc : TypeId × Value → H} {base : Nat} {W : World} {v : Value} {d : DataW H} {p : List MemPlace} (h : DataW.Trod enc Tryd.prog W 0 (fun _ => true) true 28 v d p) (ok : Value.okWide Tryd.prog W .any base 28 v) :
    ∃ (a : Option Addr) (cap : Nat) (l : List Cg), v = .slice a l.length cap ∧ SlG W 5 encG a cap l ∧ ∀ x ∈ l, Cg.Ok x := by
  obtain ⟨a, len, cap, rfl⟩ := okWide_slice Tryd.underlying28 ok
  have hl := arg_leaves (d := 2) (ls := [28]) (by kernel_rfl) h
  obtain ⟨c0, cs0, e0, h0, hl⟩ := hl.cons
  obtain rfl := hl.nil
  simp only [Value.cells, List.cons.injEq, and_true] at e0
  subst e0
  have hf : flat Tryd.prog 6 39 = some [3, 3, 3, 3, 3] := by kernel_rfl
  rcases h0.slice Tryd.underlying28 hf with e1 | ⟨x, len', cap', e1, g1, g2, hE⟩
  · cases e1
    exact ⟨none, 0, [], rfl, ⟨RowsAt.nil _ _ _ _, Nat.le_refl _, Nat.zero_le _, fun _ => ⟨rfl, rfl⟩, .inl rfl⟩, fun x hx => by cases hx⟩
  · cases e1
    obtain ⟨f, hf1, hf2⟩ := elems_rows hE (by simp)
    obtain ⟨g, hg⟩ : ∃ g : Nat → Cg, ∀ i, i < len → f i = encG (g i) ∧ Cg.Ok (g i) := by
      have : ∀ i, ∃ z : Cg, i < len → f i = encG z ∧ Cg.Ok z := fun i => by
        by_cases hi : i < len
        · obtain ⟨z, e, hz⟩ := cg_cells (hf1 i hi)
          exact ⟨z, fun _ => ⟨e, hz⟩⟩
        · exact ⟨default, fun h => absurd h hi⟩
      exact ⟨fun i => (this i).choose, fun i => (this i).choose_spec⟩
    have hlen : ((List.range len).map g).length = len := by simp
    have hR : RecsAt W (some x) 5 encG ((List.range len).map g) := by
      show RowsAt _ _ _ _ _
      rw [hlen]
      refine hf2.congr fun i hi => ?_
      rw [(hg i hi).1]
      unfold recF
      rw [List.getD_eq_getElem?_getD, List.getElem?_eq_getElem (by simpa using hi)]
      simp
    refine ⟨some x, cap, (List.range len).map g, by rw [hlen], ⟨hR, by rw [hlen]; exact g1, g2, (fun e => by cases e), ?_⟩, fun y hy => ?_⟩
    · by_cases h0 : len = 0
      · left; subst h0; rfl
      · right
        obtain ⟨b, o, e, hb⟩ := RowsAt.lt hR (by rw [hlen]; omega) (by unfold recF; unfold encG; simp)
        exact ⟨b, o, e, hb⟩
    · obtain ⟨i, hi, rfl⟩ := List.mem_map.1 hy
      exact (hg i (List.mem_range.1 hi)).2

theorem triple_arg {H : Type} {enc : TypeId × Value → H} {base : Nat} {W : World} {v : Value} {d : DataW H} {p : List MemPlace} (h : DataW.Trod enc Tryd.prog W 0 (fun _ => true) true 27 v d p) (ok : Value.okWide Tryd.prog W .any base 27 v) :
    ∃ d0 d1 d2 : Int, v = .agg #[.int .i64 d0, .int .i64 d1, .int .i64 d2] := by
  obtain ⟨cs, rfl⟩ := okWide_agg (by kernel_rfl) ok
  have hl := arg_leaves (d := 3) (ls := [3, 3, 3]) (by kernel_rfl) h
  obtain ⟨c0, cs0, e0, h0, hl⟩ := hl.cons
  obtain ⟨c1, cs1, e1, h1, hl⟩ := hl.cons
  obtain ⟨c2, cs2, e2, h2, hl⟩ := hl.cons
  obtain ⟨d0, rfl, f0⟩ := h0.int Tryd.underlying3
  obtain ⟨d1, rfl, f1⟩ := h1.int Tryd.underlying3
  obtain ⟨d2, rfl, f2⟩ := h2.int Tryd.underlying3
  obtain rfl := hl.nil
  obtain ⟨l⟩ := cs
  simp only [Value.cells] at e0
  subst e0
  subst e1
  subst e2
  exact ⟨d0, d1, d2, rfl⟩

theorem open_AdjustEntries {H : Type} (enc : TypeId × Value → H) (base : Nat) (W : World) (hR : RulesAt W) (v0 : Value) (d0 : DataW H) (p0 : List MemPlace) (h0 : DataW.Trod enc Tryd.prog W 0 (fun _ => true) true 26 v0 d0 p0) (ok0 : Value.okWide Tryd.prog W .any base 26 v0)
    (v1 : Value) (d1 : DataW H) (p1 : List MemPlace) (h1 : DataW.Trod enc Tryd.prog W 0 (fun _ => true) true 27 v1 d1 p1) (ok1 : Value.okWide Tryd.prog W .any base 27 v1)
    (v2 : Value) (d2 : DataW H) (p2 : List MemPlace) (h2 : DataW.Trod enc Tryd.prog W 0 (fun _ => true) true 28 v2 d2 p2) (ok2 : Value.okWide Tryd.prog W .any base 28 v2) :
    Calls Tryd.prog 3 #[v0, v1, v2] W fun e W' => e = .returned (.bool true) ∧ Below W.heap.size W W' := by
  obtain ⟨e, rfl, q1, q2, q3, q4, _⟩ := open_entry h0 ok0
  obtain ⟨con, h, v, rfl⟩ := triple_arg h1 ok1
  obtain ⟨ca, cc, cs, rfl, hs, hok⟩ := cgs_arg h2 ok2
  exact walk_AdjustEntries W hR e.s e.a e.cap e.ls q1 q2 q3 q4 con h v ca cc cs hs (by have := hs.le; have := hs.max; unfold maxLen at *; omega) hok

end Go.Proofs.YtmjgcenhgpkhiaaDoor
