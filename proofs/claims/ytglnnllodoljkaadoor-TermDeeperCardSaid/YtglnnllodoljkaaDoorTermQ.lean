/- slices.Clone over integers; term.Kids; a law that walks: TermOps. -/
import Derived.Test.YtglnnllodoljkaaDoorTermP
import Derived.Laws.AppendOwn
namespace Go.Proofs.YtglnnllodoljkaaDoor
open Go.RowKit Go.Shelf
set_option linter.unusedVariables false
set_option linter.unusedSimpArgs false

/-- The sorts of what stands below an op. -/
def kidsS (op : Int) : List Int := (List.range (mny op)).map fun j => shp op (j + 2)
theorem kidsS_len (op : Int) : (kidsS op).length = mny op := by simp [kidsS]
theorem kidsS_get (op : Int) (j : Nat) (h : j < mny op) : (kidsS op).getD j 0 = shp op (j + 2) := by
  simp [kidsS, List.getD_eq_getElem?_getD, h]

def CloneEnd (xs : List Int) (w : World) (e : Ending) (w' : World) : Prop :=
  ∃ v, e = .returned v ∧ w'.ownsRow w.heap.size 3 1 v xs.length (xs.map (Value.int .i64)) ∧ Below w.heap.size w w'

set_option maxHeartbeats 1000000 in
set_option maxRecDepth 100000 in
theorem clone_ok (x : Addr) (cap : Nat) (xs : List Int) (w : World) (hx : IntsAt w (some x) xs) (hl : xs.length ≤ 1000000) :
    Calls Tryd.prog 41 #[.slice (some x) xs.length cap] w (CloneEnd xs w) := by
  obtain ⟨i0, hi, hz0, hz1, hz2⟩ := info_parts infoInt
  have heq := fun (w : World) (a : Option Addr) (n c : Nat) => Lib.run_eql_slice_nil (P := Tryd.prog) w 27 3 a n c 0 0 Tryd.underlying27
  have hc := Lib.hid hx
  clear hx
  go_enter Tryd.func41, Tryd.ntmps41
  go_wp2_with (at_builtin; refine wpList_append_own _ rfl _ _ 27 rfl w.heap.size 3 i0 _ 1 8 Tryd.underlying27 hi hz0 hz1 hz2 rfl (by decide) _ 0 [] rfl (World.ownsRow_lit _ #[] 0 (Nat.le_refl _) (by unfold maxLen; omega) rfl) x xs.length cap (xs.map (Value.int .i64)) rfl (by simp) (fun j u hj => (hc.out.after ((Below.refl _ _).alloc (Nat.le_refl _) _)).cells (f := intRow xs) (fun _ => rfl) rfl j u (by rw [intRow_flat]; exact hj)) (by intro u hu; simp at hu; obtain ⟨z, _, rfl⟩ := hu; rfl) (by unfold maxLen; omega) (by omega) (by simp) ?_; intro v' w1 hown' hgrow _)
  rw [Nat.zero_add, List.nil_append] at hown'
  have hb : Below w.heap.size w w1 := ((Below.refl _ _).alloc (Nat.le_refl _) _).grown hgrow (by simp) (fun q e => by cases e; exact Nat.le_refl _)
  go_wp2_with fail
  go_ret
  exact ⟨_, rfl, hown', hb⟩

theorem slice_four (B off M : Nat) (h : M ≤ 4) (w : World) : (Instr.sliceAt 60 (.pointer (some ⟨B, off, none⟩)) none (some (.int .i64 (M : Int))) none).run Tryd.prog w = .ok (.slice (some ⟨B, off, none⟩) M 4) w := by
  have ha : Tryd.prog.arrayLen 60 = 4 := by kernel_rfl
  have he : Tryd.prog.elem 60 = 3 := by kernel_rfl
  have hs : (sizeOf 3).run Tryd.prog w = .ok 1 w := by kernel_rfl
  rw [run_sliceAt_array_h w 60 ⟨B, off, none⟩ (by kernel_rfl) .i64 (M : Int) (by omega) (by rw [ha]; omega), ha, he, hs]
  simp [slicedAt, Addr.add]

set_option maxHeartbeats 1000000 in
set_option maxRecDepth 100000 in
theorem tkids_ok (op : Int) (w : World) (hS : ShapesAt w) : Calls Tryd.prog 21 #[.int .i64 op] w (CloneEnd (kidsS op) w) := by
  have HO := Lib.hid (of_ok op w hS)
  unfold shapeV at HO
  obtain ⟨m1, m2⟩ := mny_int op
  rw [← m1] at HO
  clear hS
  go_enter Tryd.func21, Tryd.ntmps21
  go_wp2_with fail
  with_reducible refine HO.out.mono ?_
  rintro e w1 ⟨rfl, hb1⟩
  obtain ⟨M, hM⟩ : ∃ M, mny op = M := ⟨_, rfl⟩
  rw [hM] at m2 ⊢
  have HK := Lib.hid (kidsS_len op)
  have HG := Lib.hid (kidsS_get op)
  rw [hM] at HK HG
  clear hM m1 HO
  obtain ⟨y0, hy0⟩ : ∃ y, shp op 0 = y := ⟨_, rfl⟩
  obtain ⟨y2, hy2⟩ : ∃ y, shp op 2 = y := ⟨_, rfl⟩
  obtain ⟨y3, hy3⟩ : ∃ y, shp op 3 = y := ⟨_, rfl⟩
  obtain ⟨y4, hy4⟩ : ∃ y, shp op 4 = y := ⟨_, rfl⟩
  obtain ⟨y5, hy5⟩ : ∃ y, shp op 5 = y := ⟨_, rfl⟩
  rw [hy0, hy2, hy3, hy4, hy5]
  have HY : Hid (shp op 2 = y2 ∧ shp op 3 = y3 ∧ shp op 4 = y4 ∧ shp op 5 = y5) := ⟨hy2, hy3, hy4, hy5⟩
  clear hy0 hy2 hy3 hy4 hy5
  obtain ⟨xs, hxs⟩ : ∃ xs, kidsS op = xs := ⟨_, rfl⟩
  rw [hxs] at HK HG ⊢
  have HXS := Lib.hid hxs
  clear hxs
  obtain ⟨wq, hwq⟩ : ∃ wq, w1.alloc (.cells #[.int .i64 0, .int .i64 0, .int .i64 0, .int .i64 0, .int .i64 0, .int .i64 0] 62) = wq := ⟨_, rfl⟩
  have kq : Blk wq w1.heap.size #[.int .i64 0, .int .i64 0, .int .i64 0, .int .i64 0, .int .i64 0, .int .i64 0] 62 := by rw [← hwq]; exact Blk.new _ _ _
  have bq : Hid (Below w1.heap.size w1 wq) := by show Below _ _ _; rw [← hwq]; exact (Below.refl _ _).alloc (Nat.le_refl _) _
  have f0 := kq.free 0
  have e0 : wq.cell? ⟨w1.heap.size, 0, none⟩ = some (.int .i64 0) := kq.cell 0 rfl
  have f1 := kq.free 1
  have e1 : wq.cell? ⟨w1.heap.size, 1, none⟩ = some (.int .i64 0) := kq.cell 1 rfl
  have f2 := kq.free 2
  have e2 : wq.cell? ⟨w1.heap.size, 2, none⟩ = some (.int .i64 0) := kq.cell 2 rfl
  have f3 := kq.free 3
  have e3 : wq.cell? ⟨w1.heap.size, 3, none⟩ = some (.int .i64 0) := kq.cell 3 rfl
  have f4 := kq.free 4
  have e4 : wq.cell? ⟨w1.heap.size, 4, none⟩ = some (.int .i64 0) := kq.cell 4 rfl
  have f5 := kq.free 5
  have e5 : wq.cell? ⟨w1.heap.size, 5, none⟩ = some (.int .i64 0) := kq.cell 5 rfl
  obtain ⟨wx, hwx⟩ : ∃ wx, ((((((wq.setCell ⟨w1.heap.size, 0, none⟩ (.int .i64 y0)).setCell ⟨w1.heap.size, 1, none⟩ (.int .i64 M)).setCell ⟨w1.heap.size, 2, none⟩ (.int .i64 y2)).setCell ⟨w1.heap.size, 3, none⟩ (.int .i64 y3)).setCell ⟨w1.heap.size, 4, none⟩ (.int .i64 y4)).setCell ⟨w1.heap.size, 5, none⟩ (.int .i64 y5)) = wx := ⟨_, rfl⟩
  have KX : Hid (Blk wx w1.heap.size #[.int .i64 y0, .int .i64 M, .int .i64 y2, .int .i64 y3, .int .i64 y4, .int .i64 y5] 62) := by
    rw [← hwx]
    exact (((((kq.set 0 _).set 1 _).set 2 _).set 3 _).set 4 _).set 5 _
  have bx : Hid (Below w1.heap.size w1 wx) := by
    show Below _ _ _
    rw [← hwx]
    exact below_set6 bq.out (Nat.le_refl _) _ _ _ _ _ _
  have c1 : wx.cell? ⟨w1.heap.size, 1, none⟩ = some (.int .i64 M) := KX.out.cell 1 rfl
  have hix : Hid (IntsAt wx (some ⟨w1.heap.size, 2, none⟩) xs) := fun _ => by
    refine ⟨w1.heap.size, 2, rfl, fun i hi j v hv => ?_⟩
    have hj : j = 0 := by have := (List.getElem?_eq_some_iff.1 hv).1; simp [intRow] at this; exact this
    subst hj
    have hi' : i < M := by rw [← HK.out]; exact hi
    have hg := HG.out i hi'
    simp only [intRow, List.getElem?_cons_zero, Option.some.injEq] at hv
    rw [← hv, hg, Nat.mul_one, Nat.add_zero]
    have : i = 0 ∨ i = 1 ∨ i = 2 ∨ i = 3 := by omega
    obtain ⟨r2, r3, r4, r5⟩ := HY.out
    rcases this with rfl | rfl | rfl | rfl
    · rw [r2]; exact KX.out.cell 2 rfl
    · rw [r3]; exact KX.out.cell 3 rfl
    · rw [r4]; exact KX.out.cell 4 rfl
    · rw [r5]; exact KX.out.cell 5 rfl
  have HC := Lib.hid (clone_ok ⟨w1.heap.size, 2, none⟩ 4 xs wx hix.out (by rw [HK.out]; omega))
  rw [HK.out] at HC
  have z1 := hb1.size
  have hsl := fun w => slice_four w1.heap.size 2 M m2 w
  clear kq
  go_wp2_with fail
  with_reducible refine HC.out.mono ?_
  rintro e w3 ⟨v, rfl, hown, hb3⟩
  go_wp2_with fail
  go_ret
  have zx := bx.out.size
  refine ⟨_, rfl, ?_, (hb1.trans (bx.out.mono z1)).trans (hb3.mono (by omega))⟩
  rw [HXS.out]
  exact own_base (base := wx.heap.size) hown (by omega)

end Go.Proofs.YtglnnllodoljkaaDoor
