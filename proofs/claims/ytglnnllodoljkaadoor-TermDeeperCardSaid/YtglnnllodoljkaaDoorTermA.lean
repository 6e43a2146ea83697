/- Package term: the table of shapes; of, Sort. -/
import Derived.Test.YtglnnllodoljkaaDoorGen
import Derived.Test.YtglnnllodoljkaaDoorRefA
namespace Go.Proofs.YtglnnllodoljkaaDoor
open Go.RowKit
set_option linter.unusedVariables false
set_option linter.unusedSimpArgs false

/-- What an op makes, how many stand below it, and of which sorts: the table. -/
def shTab : List (List Int) := [[0, 0, 0, 0, 0, 0], [1, 0, 0, 0, 0, 0], [1, 0, 0, 0, 0, 0], [1, 1, 1, 0, 0, 0], [1, 2, 1, 1, 0, 0], [1, 2, 1, 1, 0, 0], [1, 2, 1, 1, 0, 0], [1, 2, 1, 1, 0, 0], [1, 2, 1, 1, 0, 0], [2, 0, 0, 0, 0, 0], [2, 0, 0, 0, 0, 0], [2, 1, 2, 0, 0, 0], [2, 2, 2, 2, 0, 0], [2, 2, 1, 2, 0, 0], [2, 1, 2, 0, 0, 0], [2, 4, 1, 1, 2, 2], [2, 2, 2, 2, 0, 0], [2, 1, 2, 0, 0, 0]]
def shN (k j : Nat) : Int := (shTab.getD k []).getD j 0
def shp (op : Int) (j : Nat) : Int := if 0 ≤ op ∧ op < 18 then shN op.toNat j else 0
/-- The table, as its variable holds it. -/
def ShapesAt (w : World) : Prop := ∀ k, k < 18 → ∀ j, j < 6 → w.cell? ⟨0, k * 6 + j, none⟩ = some (.int .i64 (shN k j))
theorem ShapesAt.after {w w' : World} (h : ShapesAt w) (hb : Below w.heap.size w w') : ShapesAt w' := fun k hk j hj => below_cell hb (h k hk j hj)
def shapeV (op : Int) : Value := .agg #[.int .i64 (shp op 0), .int .i64 (shp op 1), .int .i64 (shp op 2), .int .i64 (shp op 3), .int .i64 (shp op 4), .int .i64 (shp op 5)]
theorem shp_out {op : Int} (h : ¬ (0 ≤ op ∧ op < 18)) (j : Nat) : shp op j = 0 := if_neg h
theorem shp_in {k : Nat} (h : k < 18) (j : Nat) : shp (k : Int) j = shN k j := by
  unfold shp
  rw [if_pos (by omega)]
  rfl

theorem below_set6 {B : Nat} {a w : World} (h : Below B a w) {b : Nat} (hb : B ≤ b) (v0 v1 v2 v3 v4 v5 : Value) :
    Below B a ((((((w.setCell ⟨b, 0, none⟩ v0).setCell ⟨b, 1, none⟩ v1).setCell ⟨b, 2, none⟩ v2).setCell ⟨b, 3, none⟩ v3).setCell ⟨b, 4, none⟩ v4).setCell ⟨b, 5, none⟩ v5) :=
  (((((h.setCell (p := ⟨b, 0, none⟩) hb _).setCell (p := ⟨b, 1, none⟩) hb _).setCell (p := ⟨b, 2, none⟩) hb _).setCell (p := ⟨b, 3, none⟩) hb _).setCell (p := ⟨b, 4, none⟩) hb _).setCell (p := ⟨b, 5, none⟩) hb _

set_option maxHeartbeats 1000000 in
theorem of_ok (op : Int) (w : World) (hS : ShapesAt w) : Calls Tryd.prog 38 #[.int .i64 op] w fun e w' => e = .returned (shapeV op) ∧ Below w.heap.size w w' := by
  obtain ⟨wa, hwa⟩ : ∃ wa, w.alloc (.cells #[.int .i64 0, .int .i64 0, .int .i64 0, .int .i64 0, .int .i64 0, .int .i64 0] 62) = wa := ⟨_, rfl⟩
  have ba : Below w.heap.size w wa := by rw [← hwa]; exact (Below.refl _ _).alloc (Nat.le_refl _) _
  have k0 : Blk wa w.heap.size #[.int .i64 0, .int .i64 0, .int .i64 0, .int .i64 0, .int .i64 0, .int .i64 0] 62 := by rw [← hwa]; exact Blk.new _ _ _
  have f0 := k0.free 0
  have f1 := k0.free 1
  have f2 := k0.free 2
  have f3 := k0.free 3
  have f4 := k0.free 4
  have f5 := k0.free 5
  have c0 := k0.cell 0 (v := .int .i64 0) rfl
  have c1 := k0.cell 1 (v := .int .i64 0) rfl
  have c2 := k0.cell 2 (v := .int .i64 0) rfl
  have c3 := k0.cell 3 (v := .int .i64 0) rfl
  have c4 := k0.cell 4 (v := .int .i64 0) rfl
  have c5 := k0.cell 5 (v := .int .i64 0) rfl
  clear k0
  by_cases h : 0 ≤ op ∧ op < 18
  · obtain ⟨k, rfl⟩ : ∃ k : Nat, op = k := ⟨op.toNat, by omega⟩
    have hk : k < 18 := by omega
    have hs := hS.after ba
    have s0 : wa.cell? ⟨0, k * 6, none⟩ = some (.int .i64 (shN k 0)) := hs k hk 0 (by omega)
    have s1 : wa.cell? ⟨0, k * 6 + 1, none⟩ = some (.int .i64 (shN k 1)) := hs k hk 1 (by omega)
    have s2 : wa.cell? ⟨0, k * 6 + 2, none⟩ = some (.int .i64 (shN k 2)) := hs k hk 2 (by omega)
    have s3 : wa.cell? ⟨0, k * 6 + 3, none⟩ = some (.int .i64 (shN k 3)) := hs k hk 3 (by omega)
    have s4 : wa.cell? ⟨0, k * 6 + 4, none⟩ = some (.int .i64 (shN k 4)) := hs k hk 4 (by omega)
    have s5 : wa.cell? ⟨0, k * 6 + 5, none⟩ = some (.int .i64 (shN k 5)) := hs k hk 5 (by omega)
    have HV : Hid (shapeV k = .agg #[.int .i64 (shN k 0), .int .i64 (shN k 1), .int .i64 (shN k 2), .int .i64 (shN k 3), .int .i64 (shN k 4), .int .i64 (shN k 5)]) := by
      unfold shapeV
      simp only [shp_in hk]
      exact trivial
    have k1 : (0 : Int) ≤ (k : Int) := by omega
    have k2 : (k : Int) < 18 := by omega
    clear hs h
    go_enter Tryd.func38, Tryd.ntmps38
    go_wp2_with fail
    refine bodyPost_ret (v := shapeV k) ?_ rfl ⟨rfl, below_set6 ba (Nat.le_refl _) _ _ _ _ _ _⟩
    rw [HV.out]
    simp [results, Tryd.results38, go_sem, c0, c1, c2, c3, c4, c5]
  · have HV : Hid (shapeV op = .agg #[.int .i64 0, .int .i64 0, .int .i64 0, .int .i64 0, .int .i64 0, .int .i64 0]) := by
      unfold shapeV
      simp only [shp_out h]
      exact trivial
    have hor : op < 0 ∨ (¬ op < 0 ∧ 18 ≤ op) := by omega
    clear h
    rcases hor with h | ⟨h, h'⟩
    all_goals
      go_enter Tryd.func38, Tryd.ntmps38
      go_wp2_with fail
      refine bodyPost_ret (v := shapeV op) ?_ rfl ⟨rfl, below_set6 ba (Nat.le_refl _) _ _ _ _ _ _⟩
      rw [HV.out]
      simp [results, Tryd.results38, go_sem, c0, c1, c2, c3, c4, c5]

theorem shape_field (v0 v1 v2 v3 v4 v5 : Value) (w : World) : (Instr.field 62 (.agg #[v0, v1, v2, v3, v4, v5]) 0).run Tryd.prog w = .ok v0 w := by kernel_rfl
theorem shape_field1 (v0 v1 v2 v3 v4 v5 : Value) (w : World) : (Instr.field 62 (.agg #[v0, v1, v2, v3, v4, v5]) 1).run Tryd.prog w = .ok v1 w := by kernel_rfl

set_option maxRecDepth 100000 in
theorem sort_ok (op : Int) (w : World) (hS : ShapesAt w) : Calls Tryd.prog 23 #[.int .i64 op] w fun e w' => e = .returned (.int .i64 (shp op 0)) ∧ Below w.heap.size w w' := by
  have HO := Lib.hid (of_ok op w hS)
  unfold shapeV at HO
  go_enter Tryd.func23, Tryd.ntmps23
  go_wp2_with fail
  with_reducible refine HO.out.mono ?_
  rintro e w1 ⟨rfl, hb1⟩
  have hf := fun w => shape_field (.int .i64 (shp op 0)) (.int .i64 (shp op 1)) (.int .i64 (shp op 2)) (.int .i64 (shp op 3)) (.int .i64 (shp op 4)) (.int .i64 (shp op 5)) w
  go_wp2_with fail
  go_ret
  exact ⟨rfl, hb1⟩

end Go.Proofs.YtglnnllodoljkaaDoor
