/- The laws' arguments: calls, and Few of them. -/
import Derived.Test.YtpinhomalmknjaaDoorLgN
namespace Go.Proofs.YtpinhomalmknjaaDoor
open Go.ChangeShapes Go.WideShapes Go.ChangeAt Go.RowKit
set_option linter.unusedVariables false
set_option linter.unusedSimpArgs false
set_option maxRecDepth 100000

def rowLn (ls : List Ln) (i : Nat) : List Value := [.int .i64 (Ln.at ls i).p, .int .i64 (Ln.at ls i).c, .int .i64 (Ln.at ls i).a]
theorem lines_rows {w : World} {a : Option Addr} {ls : List Ln} (h : RowsAt w a ls.length 3 (rowLn ls)) : LnAt w a ls := fun hl => by
  obtain ⟨b, o, e, hc⟩ := h hl
  exact ⟨b, o, e, fun i hi => ⟨hc i hi 0 _ rfl, hc i hi 1 _ rfl, hc i hi 2 _ rfl⟩⟩

theorem few14 (s : Six) (a : Option Addr) (cap n : Nat) (w : World) (hn : n ≤ 9223372036854775807) : Calls Tryd.prog 10 #[entV s a n cap] w fun e w' => e = .returned (.bool (decide (n ≤ 20))) ∧ Below w.heap.size w w' := by
  have hbx := Blk.new w (entCs s a n cap) 27
  have b6 : (w.alloc (.cells (entCs s a n cap) 27)).cell? ⟨w.heap.size, 6, none⟩ = some (.slice a n cap) := hbx.cell 6 rfl
  unfold entCs at b6
  clear hbx
  unfold entV
  go_enter Tryd.func10, Tryd.ntmps10
  go_wp2_with fail
  go_ret
  exact ⟨ret_bool (by rw [Bool.eq_iff_iff]; simp; try omega), (Below.refl _ _).alloc (Nat.le_refl _) _⟩
section
variable {H : Type} {enc : TypeId × Value → H} {W : World} {base : Nat} {spare : Nat → Bool} {held : Bool}

theorem line_cells {cs : List Value} (h : CellsAre (LeafOk enc Tryd.prog W base spare held) [3, 3, 3] cs) : ∃ l : Ln, cs = [.int .i64 l.p, .int .i64 l.c, .int .i64 l.a] ∧ l.wf := by
  obtain ⟨c0, cs, rfl, h0, h⟩ := h.cons
  obtain ⟨c1, cs, rfl, h1, h⟩ := CellsAre.cons h
  obtain ⟨c2, cs, rfl, h2, h⟩ := CellsAre.cons h
  obtain rfl := CellsAre.nil h
  obtain ⟨a, rfl, ha⟩ := h0.int Tryd.underlying3
  obtain ⟨b, rfl, hb⟩ := h1.int Tryd.underlying3
  obtain ⟨c, rfl, hc⟩ := h2.int Tryd.underlying3
  exact ⟨⟨a, b, c⟩, rfl, wf_bounds ha, wf_bounds hb, wf_bounds hc⟩

theorem list_of {α : Type} (d : α) {n : Nat} {p : Nat → α → Prop} (h : ∀ i, i < n → ∃ x, p i x) : ∃ xs : List α, xs.length = n ∧ ∀ i, i < n → p i (xs.getD i d) := by
  refine ⟨(List.range n).map fun i => if hi : i < n then (h i hi).choose else d, by simp, fun i hi => ?_⟩
  rw [List.getD_eq_getElem?_getD, List.getElem?_map, List.getElem?_range hi]
  simp only [Option.map_some, Option.getD_some, hi, dite_true]
  exact (h i hi).choose_spec

/-- A list of lines that came in. -/
theorem open_lines {c : Value} (h : LeafOk enc Tryd.prog W base spare held 25 c) :
    ∃ a cap ls, c = .slice a (ls : List Ln).length cap ∧ LnAt W a ls ∧ AllWf ls ∧ (a = none → ls.length = 0 ∧ cap = 0) ∧ ls.length ≤ 9223372036854775807 := by
  rcases h.slice (d := 3) Tryd.underlying25 (ls := [3, 3, 3]) (by kernel_rfl) with rfl | ⟨x, len, cap, rfl, h1, h2, he⟩
  · exact ⟨none, 0, [], rfl, fun h => absurd h (by simp), fun l hl => (by cases hl), fun _ => ⟨rfl, rfl⟩, by simp⟩
  · obtain ⟨f, hf, hrows⟩ := elems_rows he (by simp)
    obtain ⟨ls, rfl, hls⟩ := list_of (⟨0, 0, 0⟩ : Ln) (n := len) (p := fun i l => f i = [.int .i64 l.p, .int .i64 l.c, .int .i64 l.a] ∧ l.wf) (fun i hi => line_cells (hf i hi))
    refine ⟨some x, cap, ls, rfl, ?_, fun l hl => ?_, fun e => (by cases e), by unfold maxLen at h2; omega⟩
    · exact lines_rows (hrows.congr fun i hi => (hls i hi).1)
    · obtain ⟨i, hi, rfl⟩ := List.getElem_of_mem hl
      have := (hls i hi).2
      rwa [List.getD_eq_getElem?_getD, List.getElem?_eq_getElem hi] at this

theorem entry_cells {cs : List Value} (h : CellsAre (LeafOk enc Tryd.prog W base spare held) [3, 3, 3, 3, 3, 3, 25] cs) :
    ∃ e : En, cs = e.cs ∧ LnAt W e.a e.ls ∧ AllWf e.ls ∧ (e.a = none → e.ls.length = 0 ∧ e.cap = 0) ∧ e.ls.length ≤ 9223372036854775807 ∧ (Lit.int .i64 e.s.ref).wf = true := by
  obtain ⟨c0, cs, rfl, h0, h⟩ := h.cons
  obtain ⟨c1, cs, rfl, h1, h⟩ := CellsAre.cons h
  obtain ⟨c2, cs, rfl, h2, h⟩ := CellsAre.cons h
  obtain ⟨c3, cs, rfl, h3, h⟩ := CellsAre.cons h
  obtain ⟨c4, cs, rfl, h4, h⟩ := CellsAre.cons h
  obtain ⟨c5, cs, rfl, h5, h⟩ := CellsAre.cons h
  obtain ⟨c6, cs, rfl, h6, h⟩ := CellsAre.cons h
  obtain rfl := CellsAre.nil h
  obtain ⟨n0, rfl, _⟩ := h0.int Tryd.underlying3
  obtain ⟨n1, rfl, _⟩ := h1.int Tryd.underlying3
  obtain ⟨n2, rfl, _⟩ := h2.int Tryd.underlying3
  obtain ⟨n3, rfl, _⟩ := h3.int Tryd.underlying3
  obtain ⟨n4, rfl, _⟩ := h4.int Tryd.underlying3
  obtain ⟨n5, rfl, r5⟩ := h5.int Tryd.underlying3
  obtain ⟨a, cap, ls, rfl, q1, q2, q3, q4⟩ := open_lines h6
  exact ⟨⟨⟨n0, n1, n2, n3, n4, n5⟩, a, cap, ls⟩, rfl, q1, q2, q3, q4, r5⟩

/-- An entry in memory, of however many lines. -/
structure EnIn (w : World) (e : En) : Prop where
  ln : LnAt w e.a e.ls
  wf : AllWf e.ls
  nil : e.a = none → e.ls.length = 0 ∧ e.cap = 0
  big : e.ls.length ≤ 9223372036854775807
  rw : (Lit.int .i64 e.s.ref).wf = true
theorem EnIn.after {w w' : World} {e : En} (h : EnIn w e) (hb : Below w.heap.size w w') : EnIn w' e := ⟨h.ln.after hb, h.wf, h.nil, h.big, h.rw⟩
def EnsIn (w : World) (a : Option Addr) (es : List En) : Prop := RowsAt w a es.length 7 (En.row es) ∧ ∀ i, i < es.length → EnIn w (En.at es i)
theorem EnsIn.after {w w' : World} {a : Option Addr} {es : List En} (h : EnsIn w a es) (hb : Below w.heap.size w w') : EnsIn w' a es := ⟨h.1.after hb, fun i hi => (h.2 i hi).after hb⟩

theorem open_entries_leaf {c : Value} (h : LeafOk enc Tryd.prog W base spare held 42 c) :
    ∃ a cap es, c = .slice a (es : List En).length cap ∧ EnsIn W a es ∧ (a = none → es.length = 0 ∧ cap = 0) ∧ es.length ≤ cap ∧ cap ≤ maxLen := by
  rcases h.slice (d := 5) Tryd.underlying42 (ls := [3, 3, 3, 3, 3, 3, 25]) (by kernel_rfl) with rfl | ⟨x, len, cap, rfl, h1, h2, he⟩
  · exact ⟨none, 0, [], rfl, ⟨fun h => absurd h (by simp), fun i hi => absurd hi (by simp)⟩, fun _ => ⟨rfl, rfl⟩, by simp, by unfold maxLen; omega⟩
  · obtain ⟨f, hf, hrows⟩ := elems_rows he (by simp)
    obtain ⟨es, rfl, hes⟩ := list_of (⟨zero6, none, 0, []⟩ : En) (n := len) (p := fun i e => f i = e.cs ∧ EnIn W e) (fun i hi => by
      obtain ⟨e, h1, h2, h3, h4, h5, h6⟩ := entry_cells (hf i hi)
      exact ⟨e, h1, h2, h3, h4, h5, h6⟩)
    exact ⟨some x, cap, es, rfl, ⟨hrows.congr fun i hi => (hes i hi).1, fun i hi => (hes i hi).2⟩, fun e => (by cases e), h1, h2⟩
/-- A call, and where its entries lie. -/
structure Opc where
  p : Int
  s : Int
  k : Bool
  a : Option Addr
  cap : Nat
  es : List En
def Opc.cs (o : Opc) : List Value := [.int .i64 o.p, .int .i64 o.s, .bool o.k, .slice o.a o.es.length o.cap]
def Opc.zero : Opc := ⟨0, 0, false, none, 0, []⟩
def Opc.at (l : List Opc) (i : Nat) : Opc := l.getD i .zero
structure OpIn (w : World) (o : Opc) : Prop where
  en : EnsIn w o.a o.es
  nil : o.a = none → o.es.length = 0 ∧ o.cap = 0
  le : o.es.length ≤ o.cap
  big : o.cap ≤ maxLen
  wp : (Lit.int .i64 o.p).wf = true
  ws : (Lit.int .i64 o.s).wf = true
theorem OpIn.after {w w' : World} {o : Opc} (h : OpIn w o) (hb : Below w.heap.size w w') : OpIn w' o := ⟨h.en.after hb, h.nil, h.le, h.big, h.wp, h.ws⟩
def OpsIn (w : World) (a : Option Addr) (l : List Opc) : Prop := RowsAt w a l.length 4 (fun i => (Opc.at l i).cs) ∧ ∀ i, i < l.length → OpIn w (Opc.at l i)
theorem OpsIn.after {w w' : World} {a : Option Addr} {l : List Opc} (h : OpsIn w a l) (hb : Below w.heap.size w w') : OpsIn w' a l := ⟨h.1.after hb, fun i hi => (h.2 i hi).after hb⟩
theorem op_cells {cs : List Value} (h : CellsAre (LeafOk enc Tryd.prog W base spare held) [3, 3, 4, 42] cs) : ∃ o : Opc, cs = o.cs ∧ OpIn W o := by
  obtain ⟨c0, cs, rfl, h0, h⟩ := h.cons
  obtain ⟨c1, cs, rfl, h1, h⟩ := CellsAre.cons h
  obtain ⟨c2, cs, rfl, h2, h⟩ := CellsAre.cons h
  obtain ⟨c3, cs, rfl, h3, h⟩ := CellsAre.cons h
  obtain rfl := CellsAre.nil h
  obtain ⟨n0, rfl, q0⟩ := h0.int Tryd.underlying3
  obtain ⟨n1, rfl, q1⟩ := h1.int Tryd.underlying3
  obtain ⟨b, rfl⟩ := h2.bool Tryd.underlying4
  obtain ⟨a, cap, es, rfl, r1, r2, r3, r4⟩ := open_entries_leaf h3
  exact ⟨⟨n0, n1, b, a, cap, es⟩, rfl, r1, r2, r3, r4, q0, q1⟩
theorem open_ops_leaf {c : Value} (h : LeafOk enc Tryd.prog W base spare held 22 c) :
    ∃ a cap ops, c = .slice a (ops : List Opc).length cap ∧ OpsIn W a ops ∧ (a = none → ops.length = 0 ∧ cap = 0) ∧ ops.length ≤ cap ∧ cap ≤ maxLen := by
  rcases h.slice (d := 6) Tryd.underlying22 (ls := [3, 3, 4, 42]) (by kernel_rfl) with rfl | ⟨x, len, cap, rfl, h1, h2, he⟩
  · exact ⟨none, 0, [], rfl, ⟨fun h => absurd h (by simp), fun i hi => absurd hi (by simp)⟩, fun _ => ⟨rfl, rfl⟩, by simp, by unfold maxLen; omega⟩
  · obtain ⟨f, hf, hrows⟩ := elems_rows he (by simp)
    obtain ⟨es, rfl, hes⟩ := list_of (Opc.zero) (n := len) (p := fun i o => f i = o.cs ∧ OpIn W o) (fun i hi => op_cells (hf i hi))
    exact ⟨some x, cap, es, rfl, ⟨hrows.congr fun i hi => (hes i hi).1, fun i hi => (hes i hi).2⟩, fun e => (by cases e), h1, h2⟩
theorem open_op {b2 : Nat} {v : Value} {d : DataW H} {p : List MemPlace} {r : Reach} (h : DataW.Trod enc Tryd.prog W base spare held 44 v d p) (hok : Value.okWide Tryd.prog W r b2 44 v) :
    ∃ o : Opc, v = .agg #[.int .i64 o.p, .int .i64 o.s, .bool o.k, .slice o.a o.es.length o.cap] ∧ OpIn W o := by
  obtain ⟨cs, rfl⟩ := okWide_agg (by kernel_rfl) hok
  obtain ⟨o, he, q⟩ := op_cells (arg_leaves (d := 5) (ls := [3, 3, 4, 42]) (by kernel_rfl) h)
  have he' : cs.toList = o.cs := he
  refine ⟨o, ?_, q⟩
  congr 1
  exact Array.toList_inj.1 (by rw [he']; rfl)
end

/-- An element's cells. -/
def Cells4At (w : World) (b o : Nat) (x : Opc) : Prop :=
  w.cell? ⟨b, o, none⟩ = some (.int .i64 x.p) ∧ w.cell? ⟨b, o + 1, none⟩ = some (.int .i64 x.s) ∧ w.cell? ⟨b, o + 2, none⟩ = some (.bool x.k) ∧ w.cell? ⟨b, o + 3, none⟩ = some (.slice x.a x.es.length x.cap)
theorem Cells4At.after {w w' : World} {b o : Nat} {x : Opc} {N : Nat} (h : Cells4At w b o x) (hb : Below N w w') (hN : b < N) : Cells4At w' b o x :=
  ⟨(hb.cell (p := ⟨b, o, none⟩) hN).trans h.1, (hb.cell (p := ⟨b, o + 1, none⟩) hN).trans h.2.1, (hb.cell (p := ⟨b, o + 2, none⟩) hN).trans h.2.2.1, (hb.cell (p := ⟨b, o + 3, none⟩) hN).trans h.2.2.2⟩
theorem OpsIn.cells {w : World} {a : Option Addr} {l : List Opc} (h : OpsIn w a l) (hl : 0 < l.length) : ∃ b o, a = some ⟨b, o, none⟩ ∧ b < w.heap.size ∧ ∀ i, i < l.length → Cells4At w b (o + i * 4) (Opc.at l i) := by
  obtain ⟨b, o, e, hc⟩ := h.1 hl
  exact ⟨b, o, e, World.block_lt_of_cell? w _ (hc 0 hl 0 _ rfl), fun i hi => ⟨hc i hi 0 _ rfl, hc i hi 1 _ rfl, hc i hi 2 _ rfl, hc i hi 3 _ rfl⟩⟩
/-- An element's cells, in a later world. -/
def Cells7At (w : World) (b o : Nat) (e : En) : Prop :=
  w.cell? ⟨b, o, none⟩ = some (.int .i64 e.s.con) ∧ w.cell? ⟨b, o + 1, none⟩ = some (.int .i64 e.s.day) ∧ w.cell? ⟨b, o + 2, none⟩ = some (.int .i64 e.s.cur) ∧ w.cell? ⟨b, o + 3, none⟩ = some (.int .i64 e.s.seq) ∧ w.cell? ⟨b, o + 4, none⟩ = some (.int .i64 e.s.per) ∧ w.cell? ⟨b, o + 5, none⟩ = some (.int .i64 e.s.ref) ∧ w.cell? ⟨b, o + 6, none⟩ = some (.slice e.a e.ls.length e.cap)
theorem EnsIn.cells {w : World} {a : Option Addr} {es : List En} (h : EnsIn w a es) (hl : 0 < es.length) : ∃ b o, a = some ⟨b, o, none⟩ ∧ b < w.heap.size ∧ ∀ i, i < es.length → Cells7At w b (o + i * 7) (En.at es i) := by
  obtain ⟨b, o, e, hc⟩ := h.1 hl
  refine ⟨b, o, e, World.block_lt_of_cell? w _ (hc 0 hl 0 _ rfl), fun i hi => ⟨hc i hi 0 _ rfl, hc i hi 1 _ rfl, hc i hi 2 _ rfl, hc i hi 3 _ rfl, hc i hi 4 _ rfl, hc i hi 5 _ rfl, hc i hi 6 _ rfl⟩⟩
theorem Cells7At.after {w w' : World} {b o : Nat} {e : En} {N : Nat} (h : Cells7At w b o e) (hb : Below N w w') (hN : b < N) : Cells7At w' b o e :=
  ⟨(hb.cell (p := ⟨b, o, none⟩) hN).trans h.1, (hb.cell (p := ⟨b, o + 1, none⟩) hN).trans h.2.1, (hb.cell (p := ⟨b, o + 2, none⟩) hN).trans h.2.2.1, (hb.cell (p := ⟨b, o + 3, none⟩) hN).trans h.2.2.2.1,
   (hb.cell (p := ⟨b, o + 4, none⟩) hN).trans h.2.2.2.2.1, (hb.cell (p := ⟨b, o + 5, none⟩) hN).trans h.2.2.2.2.2.1, (hb.cell (p := ⟨b, o + 6, none⟩) hN).trans h.2.2.2.2.2.2⟩
theorem take_at {es : List En} {j : Nat} (h : j < es.length) : es.take (j + 1) = es.take j ++ [En.at es j] := by
  rw [List.take_succ_eq_append_getElem h]
  unfold En.at
  rw [List.getD_eq_getElem?_getD, List.getElem?_eq_getElem h]
  rfl
theorem at_memE {es : List En} {i : Nat} (h : i < es.length) : En.at es i ∈ es := by
  unfold En.at
  rw [List.getD_eq_getElem?_getD, List.getElem?_eq_getElem h]
  exact List.getElem_mem h
theorem EnsIn.few {w : World} {a : Option Addr} {es : List En} (h : EnsIn w a es) (hf : ∀ e ∈ es, e.ls.length ≤ 20) : EnsAt w a es :=
  ⟨h.1, fun i hi => ⟨(h.2 i hi).ln, (h.2 i hi).wf, by have := hf _ (at_memE hi); omega, (h.2 i hi).nil⟩⟩
theorem EnsAt.mem {w : World} {a : Option Addr} {es : List En} (h : EnsAt w a es) {e : En} (he : e ∈ es) : EnOk w e := by
  obtain ⟨i, hi, rfl⟩ := List.getElem_of_mem he
  have := h.2 i hi
  unfold En.at at this
  rwa [List.getD_eq_getElem?_getD, List.getElem?_eq_getElem hi] at this
def FewO (o : Opc) : Prop := o.es.length ≤ 6 ∧ ∀ e ∈ o.es, e.ls.length ≤ 20
theorem op_take {l : List Opc} {j : Nat} (h : j < l.length) : l.take (j + 1) = l.take j ++ [Opc.at l j] := by
  rw [List.take_succ_eq_append_getElem h]
  unfold Opc.at
  rw [List.getD_eq_getElem?_getD, List.getElem?_eq_getElem h]
  rfl
def FewEnd (w : World) (ops : List Opc) (e : Ending) (w' : World) : Prop := ∃ b, e = .returned (.bool b) ∧ (b = true → ops.length ≤ 20 ∧ ∀ o ∈ ops, FewO o) ∧ Below w.heap.size w w'
set_option maxHeartbeats 8000000 in
theorem few15 (a : Option Addr) (cap : Nat) (ops : List Opc) (w : World) (h : OpsIn w a ops) (hl : ops.length ≤ maxLen) : Calls Tryd.prog 9 #[.slice a ops.length cap] w (FewEnd w ops) := by
  have H := Lib.hid h
  have hl' : ops.length ≤ 9223372036854775807 := by unfold maxLen at hl; omega
  clear h hl
  go_enter Tryd.func9, Tryd.ntmps9
  go_wp2_with fail
  go_loopw [3] (fun s wr => ∃ i : Nat, i ≤ ops.length ∧ s = .int .i64 i ∧ (∀ o ∈ ops.take i, FewO o) ∧ Below w.heap.size w wr) (fun s _ => ops.length - (intOf s).toNat)
  case atStart => exact ⟨0, by omega, rfl, fun e he => (by simp at he), Below.refl _ _⟩
  case round =>
    obtain ⟨i, hi, rfl, hfew, hbl⟩ := hrel
    by_cases hlt : i < ops.length
    · obtain ⟨b, o, rfl, hbb, hcell⟩ := H.out.cells (by omega)
      have hC := Lib.hid (hcell i hlt)
      have hE := Lib.hid (H.out.2 i hlt)
      have hT : Hid (ops.take (i + 1) = ops.take i ++ [Opc.at ops i]) := Lib.hid (op_take hlt)
      obtain ⟨⟨op, os, ok, oa, ocap, oes⟩, hOO⟩ : ∃ x, Opc.at ops i = x := ⟨_, rfl⟩
      rw [hOO] at hC hE hT
      have HF := Lib.hid hfew
      clear hcell hOO hfew
      have i1 : (0 : Int) ≤ (i : Int) := by omega
      have i2 : (i : Int) < (ops.length : Int) := by omega
      obtain ⟨c0, c1, c2, c3⟩ := hC.out.after hbl hbb
      dsimp only at c0 c1 c2 c3
      by_cases h6 : oes.length ≤ 6
      · have h6' : decide (6 < (oes.length : Int)) = false := by rw [decide_eq_false_iff_not]; omega
        go_wp2_with fail
        clear h6' c0 c1 c2 c3
        obtain ⟨wo, hwo⟩ : ∃ wo : World, wr = wo := ⟨_, rfl⟩
        go_loopw [4] (fun s wi => ∃ j : Nat, j ≤ oes.length ∧ s = .int .i64 j ∧ (∀ e ∈ oes.take j, e.ls.length ≤ 20) ∧ Below w.heap.size w wi) (fun s _ => oes.length - (intOf s).toNat)
        case atStart => exact ⟨0, by omega, rfl, fun e he => (by simp at he), by subst hwo; exact hbl⟩
        case round =>
          obtain ⟨j, hj, rfl, hfw, hbj⟩ := hrel
          clear hwo
          by_cases hjl : j < oes.length
          · obtain ⟨eb, eo, rfl, hebb, hecell⟩ := hE.out.en.cells (by simpa using (show 0 < oes.length by omega))
            have hK := Lib.hid (hecell j hjl)
            have hN := Lib.hid (hE.out.en.2 j hjl)
            have hJ : Hid (oes.take (j + 1) = oes.take j ++ [En.at oes j]) := Lib.hid (take_at hjl)
            dsimp only at hK hN
            obtain ⟨⟨⟨n0, n1, n2, n3, n4, n5⟩, ea, ecap, els⟩, hEE⟩ : ∃ E, En.at oes j = E := ⟨_, rfl⟩
            rw [hEE] at hK hN hJ
            have HW := Lib.hid hfw
            have j1 : (0 : Int) ≤ (j : Int) := by omega
            have j2 : (j : Int) < (oes.length : Int) := by omega
            clear hecell hEE hfw
            obtain ⟨c0, c1, c2, c3⟩ := hC.out.after hbj hbb
            dsimp only at c0 c1 c2 c3
            obtain ⟨a0, a1, a2, a3, a4, a5, a6⟩ := hK.out.after hbj hebb
            dsimp only at a0 a1 a2 a3 a4 a5 a6
            have hfk := few14 ⟨n0, n1, n2, n3, n4, n5⟩ ea ecap els.length ‹World› hN.out.big
            dsimp only [entV] at hfk
            by_cases hf : els.length ≤ 20
            · rw [decide_eq_true hf] at hfk
              have HFK := Lib.hid hfk
              clear hfk
              go_wp2_with fail
              with_reducible refine HFK.out.mono ?_
              rintro e w1 ⟨rfl, hb1⟩
              clear a0 a1 a2 a3 a4 a5 a6 c0 c1 c2 c3
              go_wp2_with fail
              go_roundw
              case rel => exact ⟨j + 1, by omega, by go_num, fun e he => by
                rw [hJ.out] at he
                rcases List.mem_append.1 he with he | he
                · exact HW.out e he
                · obtain rfl := List.mem_singleton.1 he
                  exact hf, hbj.trans (hb1.mono hbj.size)⟩
              case measure => simp [intOf]; omega
            · rw [decide_eq_false hf] at hfk
              have HFK := Lib.hid hfk
              clear hfk
              go_wp2_with fail
              with_reducible refine HFK.out.mono ?_
              rintro e w1 ⟨rfl, hb1⟩
              clear a0 a1 a2 a3 a4 a5 a6 c0 c1 c2 c3
              go_wp2_with fail
              go_ret
              exact ⟨false, rfl, fun e => (by cases e), hbj.trans (hb1.mono hbj.size)⟩
          · obtain rfl : j = oes.length := by omega
            rw [List.take_length] at hfw
            have HW := Lib.hid hfw
            clear hfw
            obtain ⟨c0, c1, c2, c3⟩ := hC.out.after hbj hbb
            dsimp only at c0 c1 c2 c3
            go_wp2_with fail
            clear c0 c1 c2 c3
            go_roundw
            case rel => exact ⟨i + 1, by omega, by go_num, fun e he => by
              rw [hT.out] at he
              rcases List.mem_append.1 he with he | he
              · exact HF.out e he
              · obtain rfl := List.mem_singleton.1 he
                exact ⟨h6, HW.out⟩, hbj⟩
            case measure => simp [intOf]; omega
      · have h6' : decide (6 < (oes.length : Int)) = true := by rw [decide_eq_true_iff]; omega
        have h7' : decide (6 < oes.length) = true := by rw [decide_eq_true_iff]; omega
        go_wp2_with fail
        go_ret
        exact ⟨false, rfl, fun e => (by cases e), hbl⟩
    · obtain rfl : i = ops.length := by omega
      rw [List.take_length] at hfew
      have HF := Lib.hid hfew
      clear hfew
      go_wp2_with fail
      go_ret
      exact ⟨_, rfl, fun e => ⟨by have := of_decide_eq_true e; omega, HF.out⟩, hbl⟩

end Go.Proofs.YtpinhomalmknjaaDoor
