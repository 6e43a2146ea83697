/- Package bitemp: what a nil store answers. -/
import Derived.Test.YtkloijkfaooodaaBitK
import Derived.Test.YtkloijkfaooodaaBitCb
import Derived.Test.YtkloijkfaooodaaBitDy
namespace Go.Proofs.Ytkloijkfaooodaa
open Go.RowKit Go.Sort Go.Shelf
set_option linter.unusedVariables false
set_option linter.unusedSimpArgs false

/-- What a call on a nil store answers. -/
def NilC (w : World) (e : Ending) (w' : World) : Prop := e = .returned (.tuple #[.agg #[.int .i64 0, .bool false, .int .i64 0, .int .i64 0, .int .i64 0, .int .i64 0, .int .i64 0], .bool false, .int .i64 2]) ∧ RowKit.Below w.heap.size w w'
set_option maxHeartbeats 4000000 in
set_option maxRecDepth 100000 in
theorem bfix_nil (s k d n m : Int) (w : World) : Calls Try.prog 36 #[.pointer none, .int .i64 s, .agg #[.int .i64 k, .int .i64 d, .int .i64 n, .int .i64 m]] w (NilC w) := by
  obtain ⟨wx, hwx⟩ : ∃ wx, w.alloc (.cells #[.int .i64 k, .int .i64 d, .int .i64 n, .int .i64 m] 86) = wx := ⟨_, rfl⟩
  have hbx : RowKit.Below w.heap.size w wx := by rw [← hwx]; exact (RowKit.Below.refl _ _).alloc (Nat.le_refl _) _
  have zx : wx.heap.size = w.heap.size + 1 := by rw [← hwx]; simp
  obtain ⟨w0, hw0⟩ : ∃ w0, wx.alloc (.cells #[.int .i64 0, .bool false, .int .i64 0, .int .i64 0, .int .i64 0, .int .i64 0, .int .i64 0] 26) = w0 := ⟨_, rfl⟩
  have hb0 : RowKit.Below w.heap.size w w0 := by rw [← hw0]; exact hbx.alloc (by omega) _
  have KR : Hid (Blk w0 (w.heap.size + 1) #[.int .i64 0, .bool false, .int .i64 0, .int .i64 0, .int .i64 0, .int .i64 0, .int .i64 0] 26) := by
    rw [← hw0, ← zx]
    exact Blk.new _ _ _
  have HB0 := Lib.hid hb0
  have HX := Lib.hid hwx
  have H0 := Lib.hid hw0
  have b0 : w0.cell? ⟨w.heap.size + 1, 0, none⟩ = some (.int .i64 0) := (KR.out).cell 0 rfl
  have b1 : w0.cell? ⟨w.heap.size + 1, 1, none⟩ = some (.bool false) := (KR.out).cell 1 rfl
  have b2 : w0.cell? ⟨w.heap.size + 1, 2, none⟩ = some (.int .i64 0) := (KR.out).cell 2 rfl
  have b3 : w0.cell? ⟨w.heap.size + 1, 3, none⟩ = some (.int .i64 0) := (KR.out).cell 3 rfl
  have b4 : w0.cell? ⟨w.heap.size + 1, 4, none⟩ = some (.int .i64 0) := (KR.out).cell 4 rfl
  have b5 : w0.cell? ⟨w.heap.size + 1, 5, none⟩ = some (.int .i64 0) := (KR.out).cell 5 rfl
  have b6 : w0.cell? ⟨w.heap.size + 1, 6, none⟩ = some (.int .i64 0) := (KR.out).cell 6 rfl
  have f0 := (KR.out).free 0
  have f1 := (KR.out).free 1
  have f2 := (KR.out).free 2
  have f3 := (KR.out).free 3
  have f4 := (KR.out).free 4
  have f5 := (KR.out).free 5
  have f6 := (KR.out).free 6
  rw [← hw0, ← hwx] at b0 b1 b2 b3 b4 b5 b6 f0 f1 f2 f3 f4 f5 f6
  clear hwx hbx hw0 hb0
  go_enter Try.func36, Try.ntmps36
  go_wp2_with fail
  clear b0 b1 b2 b3 b4 b5 b6 f0 f1 f2 f3 f4 f5 f6
  rw [HX.out, H0.out]
  have b0 : w0.cell? ⟨w.heap.size + 1, 0, none⟩ = some (.int .i64 0) := (KR.out).cell 0 rfl
  have b1 : w0.cell? ⟨w.heap.size + 1, 1, none⟩ = some (.bool false) := (KR.out).cell 1 rfl
  have b2 : w0.cell? ⟨w.heap.size + 1, 2, none⟩ = some (.int .i64 0) := (KR.out).cell 2 rfl
  have b3 : w0.cell? ⟨w.heap.size + 1, 3, none⟩ = some (.int .i64 0) := (KR.out).cell 3 rfl
  have b4 : w0.cell? ⟨w.heap.size + 1, 4, none⟩ = some (.int .i64 0) := (KR.out).cell 4 rfl
  have b5 : w0.cell? ⟨w.heap.size + 1, 5, none⟩ = some (.int .i64 0) := (KR.out).cell 5 rfl
  have b6 : w0.cell? ⟨w.heap.size + 1, 6, none⟩ = some (.int .i64 0) := (KR.out).cell 6 rfl
  have f0 := (KR.out).free 0
  have f1 := (KR.out).free 1
  have f2 := (KR.out).free 2
  have f3 := (KR.out).free 3
  have f4 := (KR.out).free 4
  have f5 := (KR.out).free 5
  have f6 := (KR.out).free 6
  refine bodyPost_ret (v := .tuple #[.agg #[.int .i64 0, .bool false, .int .i64 0, .int .i64 0, .int .i64 0, .int .i64 0, .int .i64 0], .bool false, .int .i64 2]) (by simp [results, Try.results36, go_sem, b0, b1, b2, b3, b4, b5, b6]) rfl ?_
  exact ⟨rfl, HB0.out⟩
set_option maxHeartbeats 4000000 in
set_option maxRecDepth 100000 in
theorem bchoose_nil (s k d p : Int) (w : World) : Calls Try.prog 37 #[.pointer none, .int .i64 s, .agg #[.int .i64 k, .int .i64 d, .int .i64 p]] w (NilC w) := by
  obtain ⟨wx, hwx⟩ : ∃ wx, w.alloc (.cells #[.int .i64 k, .int .i64 d, .int .i64 p] 89) = wx := ⟨_, rfl⟩
  have hbx : RowKit.Below w.heap.size w wx := by rw [← hwx]; exact (RowKit.Below.refl _ _).alloc (Nat.le_refl _) _
  have zx : wx.heap.size = w.heap.size + 1 := by rw [← hwx]; simp
  obtain ⟨w0, hw0⟩ : ∃ w0, wx.alloc (.cells #[.int .i64 0, .bool false, .int .i64 0, .int .i64 0, .int .i64 0, .int .i64 0, .int .i64 0] 26) = w0 := ⟨_, rfl⟩
  have hb0 : RowKit.Below w.heap.size w w0 := by rw [← hw0]; exact hbx.alloc (by omega) _
  have KR : Hid (Blk w0 (w.heap.size + 1) #[.int .i64 0, .bool false, .int .i64 0, .int .i64 0, .int .i64 0, .int .i64 0, .int .i64 0] 26) := by
    rw [← hw0, ← zx]
    exact Blk.new _ _ _
  have HB0 := Lib.hid hb0
  have HX := Lib.hid hwx
  have H0 := Lib.hid hw0
  have b0 : w0.cell? ⟨w.heap.size + 1, 0, none⟩ = some (.int .i64 0) := (KR.out).cell 0 rfl
  have b1 : w0.cell? ⟨w.heap.size + 1, 1, none⟩ = some (.bool false) := (KR.out).cell 1 rfl
  have b2 : w0.cell? ⟨w.heap.size + 1, 2, none⟩ = some (.int .i64 0) := (KR.out).cell 2 rfl
  have b3 : w0.cell? ⟨w.heap.size + 1, 3, none⟩ = some (.int .i64 0) := (KR.out).cell 3 rfl
  have b4 : w0.cell? ⟨w.heap.size + 1, 4, none⟩ = some (.int .i64 0) := (KR.out).cell 4 rfl
  have b5 : w0.cell? ⟨w.heap.size + 1, 5, none⟩ = some (.int .i64 0) := (KR.out).cell 5 rfl
  have b6 : w0.cell? ⟨w.heap.size + 1, 6, none⟩ = some (.int .i64 0) := (KR.out).cell 6 rfl
  have f0 := (KR.out).free 0
  have f1 := (KR.out).free 1
  have f2 := (KR.out).free 2
  have f3 := (KR.out).free 3
  have f4 := (KR.out).free 4
  have f5 := (KR.out).free 5
  have f6 := (KR.out).free 6
  rw [← hw0, ← hwx] at b0 b1 b2 b3 b4 b5 b6 f0 f1 f2 f3 f4 f5 f6
  clear hwx hbx hw0 hb0
  go_enter Try.func37, Try.ntmps37
  go_wp2_with fail
  clear b0 b1 b2 b3 b4 b5 b6 f0 f1 f2 f3 f4 f5 f6
  rw [HX.out, H0.out]
  have b0 : w0.cell? ⟨w.heap.size + 1, 0, none⟩ = some (.int .i64 0) := (KR.out).cell 0 rfl
  have b1 : w0.cell? ⟨w.heap.size + 1, 1, none⟩ = some (.bool false) := (KR.out).cell 1 rfl
  have b2 : w0.cell? ⟨w.heap.size + 1, 2, none⟩ = some (.int .i64 0) := (KR.out).cell 2 rfl
  have b3 : w0.cell? ⟨w.heap.size + 1, 3, none⟩ = some (.int .i64 0) := (KR.out).cell 3 rfl
  have b4 : w0.cell? ⟨w.heap.size + 1, 4, none⟩ = some (.int .i64 0) := (KR.out).cell 4 rfl
  have b5 : w0.cell? ⟨w.heap.size + 1, 5, none⟩ = some (.int .i64 0) := (KR.out).cell 5 rfl
  have b6 : w0.cell? ⟨w.heap.size + 1, 6, none⟩ = some (.int .i64 0) := (KR.out).cell 6 rfl
  have f0 := (KR.out).free 0
  have f1 := (KR.out).free 1
  have f2 := (KR.out).free 2
  have f3 := (KR.out).free 3
  have f4 := (KR.out).free 4
  have f5 := (KR.out).free 5
  have f6 := (KR.out).free 6
  refine bodyPost_ret (v := .tuple #[.agg #[.int .i64 0, .bool false, .int .i64 0, .int .i64 0, .int .i64 0, .int .i64 0, .int .i64 0], .bool false, .int .i64 2]) (by simp [results, Try.results37, go_sem, b0, b1, b2, b3, b4, b5, b6]) rfl ?_
  exact ⟨rfl, HB0.out⟩

set_option maxHeartbeats 4000000 in
set_option maxRecDepth 100000 in
theorem calls_nil (v : Vs) (w : World) : Calls Try.prog 12 #[.pointer none, .agg (encS v).toArray] w (NilC w) := by
  obtain ⟨xs, xc, xk, xd, xn, xm, xp⟩ := v
  dsimp only [encS]
  obtain ⟨wx, hwx⟩ : ∃ wx, w.alloc (.cells #[.int .i64 xs, .bool xc, .int .i64 xk, .int .i64 xd, .int .i64 xn, .int .i64 xm, .int .i64 xp] 26) = wx := ⟨_, rfl⟩
  have hbx : RowKit.Below w.heap.size w wx := by rw [← hwx]; exact (RowKit.Below.refl _ _).alloc (Nat.le_refl _) _
  have KX : Blk wx w.heap.size #[.int .i64 xs, .bool xc, .int .i64 xk, .int .i64 xd, .int .i64 xn, .int .i64 xm, .int .i64 xp] 26 := by rw [← hwx]; exact Blk.new _ _ _
  have zx : wx.heap.size = w.heap.size + 1 := by rw [← hwx]; simp
  obtain ⟨w0, hw0⟩ : ∃ w0, wx.alloc (.cells #[.int .i64 0, .bool false, .int .i64 0, .int .i64 0, .int .i64 0, .int .i64 0, .int .i64 0] 26) = w0 := ⟨_, rfl⟩
  have hb0 : RowKit.Below w.heap.size w w0 := by rw [← hw0]; exact hbx.alloc (by omega) _
  have KX0 : Blk w0 w.heap.size #[.int .i64 xs, .bool xc, .int .i64 xk, .int .i64 xd, .int .i64 xn, .int .i64 xm, .int .i64 xp] 26 := by rw [← hw0]; exact KX.alloc _
  have KR : Hid (Blk w0 (w.heap.size + 1) #[.int .i64 0, .bool false, .int .i64 0, .int .i64 0, .int .i64 0, .int .i64 0, .int .i64 0] 26) := by
    rw [← hw0, ← zx]
    exact Blk.new _ _ _
  have z0 : w0.heap.size = w.heap.size + 2 := by rw [← hw0]; simp [zx]
  have HB0 := Lib.hid hb0
  have HX := Lib.hid hwx
  have H0 := Lib.hid hw0
  have Z0 := Lib.hid z0
  have x0 : w0.cell? ⟨w.heap.size, 0, none⟩ = some (.int .i64 xs) := (KX0).cell 0 rfl
  have x1 : w0.cell? ⟨w.heap.size, 1, none⟩ = some (.bool xc) := (KX0).cell 1 rfl
  have x2 : w0.cell? ⟨w.heap.size, 2, none⟩ = some (.int .i64 xk) := (KX0).cell 2 rfl
  have x3 : w0.cell? ⟨w.heap.size, 3, none⟩ = some (.int .i64 xd) := (KX0).cell 3 rfl
  have x4 : w0.cell? ⟨w.heap.size, 4, none⟩ = some (.int .i64 xn) := (KX0).cell 4 rfl
  have x5 : w0.cell? ⟨w.heap.size, 5, none⟩ = some (.int .i64 xm) := (KX0).cell 5 rfl
  have x6 : w0.cell? ⟨w.heap.size, 6, none⟩ = some (.int .i64 xp) := (KX0).cell 6 rfl
  rw [← hw0, ← hwx] at x0 x1 x2 x3 x4 x5 x6
  clear hwx hbx hw0 hb0 KX KX0 z0 zx
  go_enter Try.func12, Try.ntmps12
  cases xc with
  | true =>
    go_wp2_with fail
    rw [HX.out, H0.out]
    with_reducible refine (bchoose_nil _ _ _ _ _).mono ?_
    rintro e w1 ⟨rfl, hb1⟩
    have K1 := Lib.hid (KR.out.after hb1)
    have HB1 := Lib.hid (HB0.out.trans (hb1.mono HB0.out.size))
    clear hb1 x0 x1 x2 x3 x4 x5 x6
    have b0 : w1.cell? ⟨w.heap.size + 1, 0, none⟩ = some (.int .i64 0) := (K1.out).cell 0 rfl
    have b1 : w1.cell? ⟨w.heap.size + 1, 1, none⟩ = some (.bool false) := (K1.out).cell 1 rfl
    have b2 : w1.cell? ⟨w.heap.size + 1, 2, none⟩ = some (.int .i64 0) := (K1.out).cell 2 rfl
    have b3 : w1.cell? ⟨w.heap.size + 1, 3, none⟩ = some (.int .i64 0) := (K1.out).cell 3 rfl
    have b4 : w1.cell? ⟨w.heap.size + 1, 4, none⟩ = some (.int .i64 0) := (K1.out).cell 4 rfl
    have b5 : w1.cell? ⟨w.heap.size + 1, 5, none⟩ = some (.int .i64 0) := (K1.out).cell 5 rfl
    have b6 : w1.cell? ⟨w.heap.size + 1, 6, none⟩ = some (.int .i64 0) := (K1.out).cell 6 rfl
    have f0 := (K1.out).free 0
    have f1 := (K1.out).free 1
    have f2 := (K1.out).free 2
    have f3 := (K1.out).free 3
    have f4 := (K1.out).free 4
    have f5 := (K1.out).free 5
    have f6 := (K1.out).free 6
    go_wp2_with fail
    clear b0 b1 b2 b3 b4 b5 b6 f0 f1 f2 f3 f4 f5 f6
    obtain ⟨w2, hw2⟩ : ∃ W, put7 w1 (w.heap.size + 1) ⟨0, false, 0, 0, 0, 0, 0⟩ = W := ⟨_, rfl⟩
    have hK : Blk w2 (w.heap.size + 1) #[.int .i64 0, .bool false, .int .i64 0, .int .i64 0, .int .i64 0, .int .i64 0, .int .i64 0] 26 := by rw [← hw2]; exact set7 K1.out _ _ _ _ _ _ _
    have hb : RowKit.Below w.heap.size w w2 := by rw [← hw2]; exact put7_below HB1.out (by omega) _
    simp only [put7] at hw2
    rw [hw2]
    clear hw2
    have b0 : w2.cell? ⟨w.heap.size + 1, 0, none⟩ = some (.int .i64 0) := (hK).cell 0 rfl
    have b1 : w2.cell? ⟨w.heap.size + 1, 1, none⟩ = some (.bool false) := (hK).cell 1 rfl
    have b2 : w2.cell? ⟨w.heap.size + 1, 2, none⟩ = some (.int .i64 0) := (hK).cell 2 rfl
    have b3 : w2.cell? ⟨w.heap.size + 1, 3, none⟩ = some (.int .i64 0) := (hK).cell 3 rfl
    have b4 : w2.cell? ⟨w.heap.size + 1, 4, none⟩ = some (.int .i64 0) := (hK).cell 4 rfl
    have b5 : w2.cell? ⟨w.heap.size + 1, 5, none⟩ = some (.int .i64 0) := (hK).cell 5 rfl
    have b6 : w2.cell? ⟨w.heap.size + 1, 6, none⟩ = some (.int .i64 0) := (hK).cell 6 rfl
    have f0 := (hK).free 0
    have f1 := (hK).free 1
    have f2 := (hK).free 2
    have f3 := (hK).free 3
    have f4 := (hK).free 4
    have f5 := (hK).free 5
    have f6 := (hK).free 6
    refine bodyPost_ret (v := .tuple #[.agg #[.int .i64 0, .bool false, .int .i64 0, .int .i64 0, .int .i64 0, .int .i64 0, .int .i64 0], .bool false, .int .i64 2]) (by simp [results, Try.results12, go_sem, b0, b1, b2, b3, b4, b5, b6]) rfl ?_
    exact ⟨rfl, hb⟩
  | false =>
    go_wp2_with fail
    rw [HX.out, H0.out]
    with_reducible refine (bfix_nil _ _ _ _ _ _).mono ?_
    rintro e w1 ⟨rfl, hb1⟩
    have K1 := Lib.hid (KR.out.after hb1)
    have HB1 := Lib.hid (HB0.out.trans (hb1.mono HB0.out.size))
    clear hb1 x0 x1 x2 x3 x4 x5 x6
    have b0 : w1.cell? ⟨w.heap.size + 1, 0, none⟩ = some (.int .i64 0) := (K1.out).cell 0 rfl
    have b1 : w1.cell? ⟨w.heap.size + 1, 1, none⟩ = some (.bool false) := (K1.out).cell 1 rfl
    have b2 : w1.cell? ⟨w.heap.size + 1, 2, none⟩ = some (.int .i64 0) := (K1.out).cell 2 rfl
    have b3 : w1.cell? ⟨w.heap.size + 1, 3, none⟩ = some (.int .i64 0) := (K1.out).cell 3 rfl
    have b4 : w1.cell? ⟨w.heap.size + 1, 4, none⟩ = some (.int .i64 0) := (K1.out).cell 4 rfl
    have b5 : w1.cell? ⟨w.heap.size + 1, 5, none⟩ = some (.int .i64 0) := (K1.out).cell 5 rfl
    have b6 : w1.cell? ⟨w.heap.size + 1, 6, none⟩ = some (.int .i64 0) := (K1.out).cell 6 rfl
    have f0 := (K1.out).free 0
    have f1 := (K1.out).free 1
    have f2 := (K1.out).free 2
    have f3 := (K1.out).free 3
    have f4 := (K1.out).free 4
    have f5 := (K1.out).free 5
    have f6 := (K1.out).free 6
    go_wp2_with fail
    clear b0 b1 b2 b3 b4 b5 b6 f0 f1 f2 f3 f4 f5 f6
    obtain ⟨w2, hw2⟩ : ∃ W, put7 w1 (w.heap.size + 1) ⟨0, false, 0, 0, 0, 0, 0⟩ = W := ⟨_, rfl⟩
    have hK : Blk w2 (w.heap.size + 1) #[.int .i64 0, .bool false, .int .i64 0, .int .i64 0, .int .i64 0, .int .i64 0, .int .i64 0] 26 := by rw [← hw2]; exact set7 K1.out _ _ _ _ _ _ _
    have hb : RowKit.Below w.heap.size w w2 := by rw [← hw2]; exact put7_below HB1.out (by omega) _
    simp only [put7] at hw2
    rw [hw2]
    clear hw2
    have b0 : w2.cell? ⟨w.heap.size + 1, 0, none⟩ = some (.int .i64 0) := (hK).cell 0 rfl
    have b1 : w2.cell? ⟨w.heap.size + 1, 1, none⟩ = some (.bool false) := (hK).cell 1 rfl
    have b2 : w2.cell? ⟨w.heap.size + 1, 2, none⟩ = some (.int .i64 0) := (hK).cell 2 rfl
    have b3 : w2.cell? ⟨w.heap.size + 1, 3, none⟩ = some (.int .i64 0) := (hK).cell 3 rfl
    have b4 : w2.cell? ⟨w.heap.size + 1, 4, none⟩ = some (.int .i64 0) := (hK).cell 4 rfl
    have b5 : w2.cell? ⟨w.heap.size + 1, 5, none⟩ = some (.int .i64 0) := (hK).cell 5 rfl
    have b6 : w2.cell? ⟨w.heap.size + 1, 6, none⟩ = some (.int .i64 0) := (hK).cell 6 rfl
    have f0 := (hK).free 0
    have f1 := (hK).free 1
    have f2 := (hK).free 2
    have f3 := (hK).free 3
    have f4 := (hK).free 4
    have f5 := (hK).free 5
    have f6 := (hK).free 6
    refine bodyPost_ret (v := .tuple #[.agg #[.int .i64 0, .bool false, .int .i64 0, .int .i64 0, .int .i64 0, .int .i64 0, .int .i64 0], .bool false, .int .i64 2]) (by simp [results, Try.results12, go_sem, b0, b1, b2, b3, b4, b5, b6]) rfl ?_
    exact ⟨rfl, hb⟩

theorem asof_nil (s : Int) (w : World) : Calls Try.prog 32 #[.pointer none, .int .i64 s] w fun e w' => e = .returned (.pointer none) ∧ RowKit.Below w.heap.size w w' := by
  go_enter Try.func32, Try.ntmps32
  go_wp2_with fail
  have hb : RowKit.Below w.heap.size w ((w.alloc (.cells #[.int .i64 s] 3)).alloc (.cells #[.pointer none] 75)) := ((RowKit.Below.refl _ _).alloc (Nat.le_refl _) _).alloc (by simp) _
  refine bodyPost_ret (v := .pointer none) (by simp [results, Try.results32, go_sem]) rfl ?_
  exact ⟨rfl, hb⟩
theorem bcopy_nil (w : World) : Calls Try.prog 35 #[.pointer none] w fun e w' => e = .returned (.pointer none) ∧ w' = w := by
  go_enter Try.func35, Try.ntmps35
  go_wp2_with fail
  go_ret
  exact ⟨rfl, rfl⟩
theorem blen_nil (w : World) : Calls Try.prog 15 #[.pointer none] w fun e w' => e = .returned (.int .i64 0) ∧ w' = w := by
  go_enter Try.func15, Try.ntmps15
  go_wp2_with fail
  go_ret
  exact ⟨rfl, rfl⟩
theorem bseq_nil (w : World) : Calls Try.prog 31 #[.pointer none] w fun e w' => e = .returned (.int .i64 0) ∧ w' = w := by
  go_enter Try.func31, Try.ntmps31
  go_wp2_with fail
  with_reducible refine (blen_nil _).mono ?_
  rintro e w1 ⟨rfl, rfl⟩
  go_wp2_with fail
  go_ret
  exact ⟨rfl, rfl⟩
theorem days_nil (c : Bool) (k f t s : Int) (w : World) : Calls Try.prog 30 #[.pointer none, .bool c, .int .i64 k, .int .i64 f, .int .i64 t, .int .i64 s] w (SeqVEnd w []) := by
  go_enter Try.func30, Try.ntmps30
  go_wp2_with fail
  with_reducible refine (sortanyV w.heap.size _ [] _ (World.ownsRow_nil _ _ _ _) (by simp)).mono ?_
  rintro e w1 ⟨rfl, a, cap, l', hv, hp, _, _, hb1⟩
  have HB1 := Lib.hid hb1
  clear hp hv hb1
  go_wp2_with fail
  with_reducible refine (valuesV_ok _ _ _ _).mono ?_
  rintro e w2 ⟨rfl, hw2⟩
  have HW := Lib.hid hw2
  clear hw2
  go_wp2_with fail
  go_ret
  obtain rfl := HW.out
  have bb : RowKit.Below w1.heap.size w1 (w1.alloc (.cells #[.slice none 0 0] 35)) := (RowKit.Below.refl _ _).alloc (Nat.le_refl _) _
  exact ⟨w1.heap.size, rfl, ⟨none, 0, Blk.new _ _ _, RowsAt.nil _ _ _ _, by simp, by simp⟩, HB1.out.trans (bb.mono HB1.out.size), HB1.out.size⟩
theorem enc_nil (w : World) : Calls Try.prog 25 #[.pointer none] w (RowB w w.heap.size []) := encode_any _ [] (by simp) w (fun W _ => ballM_nil W)

end Go.Proofs.Ytkloijkfaooodaa
