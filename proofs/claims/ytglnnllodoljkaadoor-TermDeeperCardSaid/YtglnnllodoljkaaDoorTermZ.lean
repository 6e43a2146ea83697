/- What the laid table of shapes gives the walks; and that the program's own start meets it. -/
import Derived.Test.YtglnnllodoljkaaDoorTermA
import Derived.Test.YtglnnllodoljkaaDoorTie
import Derived.LaidMore
import Derived.LaidHandle
import Derived.Stop.Joined
import Derived.OpenShut
namespace Go.Proofs.YtglnnllodoljkaaDoor
open Go.ChangeShapes Go.WideShapes Go.ChangeAt Go.RowKit
set_option linter.unusedVariables false

theorem gShapes : Tryd.prog.globalNamed "chattel/term.shapes" = some 0 := by kernel_rfl
theorem tShapes : (Tryd.prog.globals[0]?).map (·.type) = some 72 := by kernel_rfl

section
variable {H : Type} {enc : TypeId × Value → H} {W : World} {sp : Nat → Bool} {fuel : Nat} {held : Bool}
theorem cell_of {c : Value} {n : Int} {q : List MemPlace} (h : DataW.trod enc Tryd.prog W 0 sp held fuel 3 [c] = some (.lit (.int .i64 n), q)) : c = .int .i64 n := by
  obtain ⟨k, hk, hk2, _⟩ := DataW.trod_int Tryd.underlying3 h
  simp only [List.cons.injEq, and_true] at hk
  subst hk
  simp only [Prod.mk.injEq, DataW.lit.injEq, Lit.int.injEq, true_and] at hk2
  rw [hk2.1]

theorem four_of {cs : List Value} {a b c d : Int} {q : List MemPlace} (h : DataW.trod enc Tryd.prog W 0 sp held fuel 60 cs = some (.agg [.lit (.int .i64 a), .lit (.int .i64 b), .lit (.int .i64 c), .lit (.int .i64 d)], q)) : cs = [.int .i64 a, .int .i64 b, .int .i64 c, .int .i64 d] := by
  obtain ⟨xs, m, _, hx, hlen, hxl, hel⟩ := DataW.trod_array Tryd.underlying60 h
  simp only [Prod.mk.injEq, DataW.agg.injEq] at hx
  rw [show Tryd.prog.cellsOf 60 = 4 by kernel_rfl] at hlen
  rw [show Tryd.prog.cellsOf 3 = 1 by kernel_rfl] at hel
  obtain ⟨c0, c1, c2, c3, rfl⟩ : ∃ c0 c1 c2 c3, cs = [c0, c1, c2, c3] := by
    match cs, hlen with
    | [c0, c1, c2, c3], _ => exact ⟨c0, c1, c2, c3, rfl⟩
  have hget : ∀ (i : Nat) (cc : Value) (n : Int), ([.lit (.int .i64 a), .lit (.int .i64 b), .lit (.int .i64 c), .lit (.int .i64 d)] : List (DataW H))[i]? = some (.lit (.int .i64 n)) → i < 4 → (([c0, c1, c2, c3].drop (i * 1)).take 1) = [cc] → cc = .int .i64 n := fun i v n hi h4 hc => by
    rw [hx.1, List.getElem?_map] at hi
    obtain ⟨x, hx1, hx2⟩ := Option.map_eq_some_iff.1 hi
    have h1 := hel i h4
    rw [hx1, hc] at h1
    obtain ⟨x1, x2⟩ := x
    simp only at hx2
    subst hx2
    exact cell_of h1
  rw [hget 0 c0 a rfl (by omega) rfl, hget 1 c1 b rfl (by omega) rfl, hget 2 c2 c rfl (by omega) rfl, hget 3 c3 d rfl (by omega) rfl]

set_option maxRecDepth 100000 in
theorem shape_of {cs : List Value} {x y a b c d : Int} {q : List MemPlace} (h : DataW.trod enc Tryd.prog W 0 sp held fuel 62 cs = some (.agg [.lit (.int .i64 x), .lit (.int .i64 y), .agg [.lit (.int .i64 a), .lit (.int .i64 b), .lit (.int .i64 c), .lit (.int .i64 d)]], q)) :
    cs = [.int .i64 x, .int .i64 y, .int .i64 a, .int .i64 b, .int .i64 c, .int .i64 d] := by
  obtain ⟨xs, m, _, hx, hlen, hxl, hf⟩ := DataW.trod_struct Tryd.underlying62 h
  simp only [Prod.mk.injEq, DataW.agg.injEq] at hx
  rw [show Tryd.prog.cellsOf 62 = 6 by kernel_rfl] at hlen
  obtain ⟨c0, c1, c2, c3, c4, c5, rfl⟩ : ∃ c0 c1 c2 c3 c4 c5, cs = [c0, c1, c2, c3, c4, c5] := by
    match cs, hlen with
    | [c0, c1, c2, c3, c4, c5], _ => exact ⟨c0, c1, c2, c3, c4, c5, rfl⟩
  have hget : ∀ (i : Nat) (dd : DataW H), ([.lit (.int .i64 x), .lit (.int .i64 y), .agg [.lit (.int .i64 a), .lit (.int .i64 b), .lit (.int .i64 c), .lit (.int .i64 d)]] : List (DataW H))[i]? = some dd → ∃ p, xs[i]? = some (dd, p) := fun i dd hi => by
    rw [hx.1, List.getElem?_map] at hi
    obtain ⟨x, hx1, hx2⟩ := Option.map_eq_some_iff.1 hi
    exact ⟨x.2, by rw [hx1, ← hx2]⟩
  obtain ⟨p0, e0⟩ := hget 0 _ rfl
  obtain ⟨p1, e1⟩ := hget 1 _ rfl
  obtain ⟨p2, e2⟩ := hget 2 _ rfl
  have h0 := hf 0 _ rfl
  have h1 := hf 1 _ rfl
  have h2 := hf 2 _ rfl
  rw [e0] at h0
  rw [e1] at h1
  rw [e2] at h2
  have g0 : c0 = .int .i64 x := cell_of (fuel := m) (q := p0) (by
    rw [show Tryd.prog.cellsOf (Field.type _) = 1 from by kernel_rfl] at h0
    exact h0)
  have g1 : c1 = .int .i64 y := cell_of (fuel := m) (q := p1) (by
    rw [show Tryd.prog.cellsOf (Field.type _) = 1 from by kernel_rfl] at h1
    exact h1)
  have g2 := four_of (cs := [c2, c3, c4, c5]) (fuel := m) (q := p2) (by
    rw [show Tryd.prog.cellsOf (Field.type _) = 4 from by kernel_rfl] at h2
    exact h2)
  simp only [List.cons.injEq, and_true] at g2
  obtain ⟨r2, r3, r4, r5⟩ := g2
  rw [g0, g1, r2, r3, r4, r5]
end

def shapeD {H : Type} (l : List Int) : DataW H := .agg [.lit (.int .i64 (l.getD 0 0)), .lit (.int .i64 (l.getD 1 0)), .agg [.lit (.int .i64 (l.getD 2 0)), .lit (.int .i64 (l.getD 3 0)), .lit (.int .i64 (l.getD 4 0)), .lit (.int .i64 (l.getD 5 0))]]
theorem laid_shapes {H : Type} : (Rows.laid_chattel_term_shapes : DataW H) = .agg (shTab.map shapeD) := rfl

theorem of_laid {W : World} (h : laidMetH Tryd.prog [("chattel/term.shapes", Rows.laid_chattel_term_shapes)] W) : ShapesAt W := by
  replace h : laidMet Tryd.prog [("chattel/term.shapes", Rows.laid_chattel_term_shapes)] W := h
  obtain ⟨ps, ⟨g, t, cs, fuel, p, q, hg, ht, hv, hd, _⟩, _⟩ := h
  obtain rfl := Option.some.inj (gShapes.symm.trans hg)
  obtain rfl := Option.some.inj (tShapes.symm.trans ht)
  rw [laid_shapes] at hd
  obtain ⟨xs, m, _, hx, hlen, hxl, hel⟩ := DataW.trod_array Tryd.underlying72 hd
  simp only [Prod.mk.injEq, DataW.agg.injEq] at hx
  rw [show Tryd.prog.cellsOf 72 = 108 by kernel_rfl] at hlen
  rw [show Tryd.prog.cellsOf 62 = 6 by kernel_rfl] at hel
  have hc := World.var?_cell hg hv
  intro k hk j hj
  have hk1 : (shTab.map (shapeD (H := Unit)))[k]? = some (shapeD (shTab.getD k [])) := by
    rw [List.getElem?_map, List.getElem?_eq_getElem (by exact hk), List.getD_eq_getElem?_getD, List.getElem?_eq_getElem (by exact hk)]
    rfl
  rw [hx.1, List.getElem?_map] at hk1
  obtain ⟨x, hx1, hx2⟩ := Option.map_eq_some_iff.1 hk1
  have h1 := hel k hk
  obtain ⟨x1, x2⟩ := x
  simp only at hx2
  subst hx2
  rw [hx1] at h1
  have h2 := shape_of h1
  have h3 : ((cs.toList.drop (k * 6)).take 6)[j]? = some (.int .i64 (shN k j)) := by
    rw [h2]
    have : j = 0 ∨ j = 1 ∨ j = 2 ∨ j = 3 ∨ j = 4 ∨ j = 5 := by omega
    rcases this with rfl | rfl | rfl | rfl | rfl | rfl <;> rfl
  rw [List.getElem?_take, if_pos hj, List.getElem?_drop] at h3
  rw [hc (k * 6 + j)]
  simpa using h3

/-- The program's own start meets the condition. -/
theorem door_met (os : Os) (args : Array Value) : laidMetH Tryd.prog [("chattel/term.shapes", Rows.laid_chattel_term_shapes)] ((World.doorLaid Tryd.prog 600 os).forCall (fun _ _ => 0) ⟨#[], args, []⟩).memory :=
  show laidMet Tryd.prog [("chattel/term.shapes", Rows.laid_chattel_term_shapes)] _ from laidMet_of_run' 8 (by kernel_rfl) (by kernel_rfl)
end Go.Proofs.YtglnnllodoljkaaDoor
