/- A nil agenda. -/
import Derived.Test.YtgcncnmkfpfccaaAgT
namespace Go.Proofs.Ytgcncnmkfpfccaa
open Go.RowKit Go.Sort Go.Shelf
set_option linter.unusedVariables false
set_option linter.unusedSimpArgs false

def NilV (e : Int) : Value := .tuple #[.agg #[.int .i64 0, .int .i64 0, .int .i64 0], .int .i64 e]
def nilE (a : Int) : Int := if a = 1 then 16 else 2
theorem put_nil (d t : Int) (w : World) : Calls Try.prog 24 #[.pointer none, .int .i64 d, .int .i64 t] w fun e w' => e = .returned (.tuple #[.int .i64 0, .int .i64 2]) ∧ Below w.heap.size w w' := by
  go_enter Try.func24, Try.ntmps24
  go_wp2_with fail
  go_ret2
  exact ⟨rfl, Below.refl _ _⟩
theorem len_nil (w : World) : Calls Try.prog 16 #[.pointer none] w fun e w' => e = .returned (.int .i64 0) ∧ w' = w := by
  go_enter Try.func16, Try.ntmps16
  go_wp2_with fail
  go_ret
  exact ⟨rfl, rfl⟩
theorem copy_nil (w : World) : Calls Try.prog 23 #[.pointer none] w fun e w' => e = .returned (.pointer none) ∧ w' = w := by
  go_enter Try.func23, Try.ntmps23
  go_wp2_with fail
  go_ret
  exact ⟨rfl, rfl⟩
theorem find_nil (no : Int) (w : World) : Calls Try.prog 29 #[.pointer none, .int .i64 no] w fun e w' => e = .returned (.tuple #[.int .i64 0, .int .i64 2]) ∧ w' = w := by
  go_enter Try.func29, Try.ntmps29
  go_wp2_with fail
  go_ret2
  exact ⟨rfl, rfl⟩
theorem move_nil (no d : Int) (w : World) : Calls Try.prog 21 #[.pointer none, .int .i64 no, .int .i64 d] w fun e w' => e = .returned (.int .i64 2) ∧ w' = w := by
  go_enter Try.func21, Try.ntmps21
  go_wp2_with fail
  with_reducible refine (find_nil no w).mono ?_
  rintro e w1 ⟨rfl, hw⟩
  obtain rfl : w = w1 := hw.symm
  clear hw
  go_wp2_with fail
  go_ret
  exact ⟨rfl, rfl⟩
theorem next_nil (w : World) : Calls Try.prog 19 #[.pointer none] w fun e w' => e = .returned (.tuple #[.agg #[.int .i64 0, .int .i64 0, .int .i64 0], .bool false]) ∧ Below w.heap.size w w' := by
  go_enter Try.func19, Try.ntmps19
  go_wp2_with fail
  refine bodyPost_ret (v := .tuple #[.agg #[.int .i64 0, .int .i64 0, .int .i64 0], .bool false]) (by simp [results, Try.results19, go_sem]) rfl ?_
  exact ⟨rfl, (Below.refl _ _).alloc (Nat.le_refl _) _⟩
set_option maxHeartbeats 2000000 in
theorem take_nil (y : Int) (w : World) : Calls Try.prog 20 #[.pointer none, .int .i64 y] w fun e w' => e = .returned (.tuple #[.agg #[.int .i64 0, .int .i64 0, .int .i64 0], .bool false]) ∧ Below w.heap.size w w' := by
  obtain ⟨w0, hw0⟩ : ∃ W, w.alloc (.cells #[.int .i64 0, .int .i64 0, .int .i64 0] 31) = W := ⟨_, rfl⟩
  have hb0 : Below w.heap.size w w0 := by rw [← hw0]; exact (Below.refl _ _).alloc (Nat.le_refl _) _
  have KR : Hid (Blk w0 w.heap.size #[.int .i64 0, .int .i64 0, .int .i64 0] 31) := by rw [← hw0]; exact Blk.new _ _ _
  have HW0 := Lib.hid hw0
  have HB0 := Lib.hid hb0
  clear hw0 hb0
  go_enter Try.func20, Try.ntmps20
  go_wp2_with fail
  rw [HW0.out]
  with_reducible refine (next_nil w0).mono ?_
  rintro e w1 ⟨rfl, hb1⟩
  obtain ⟨w2, hw2⟩ : ∃ W, w1.alloc (.cells #[.int .i64 0, .int .i64 0, .int .i64 0] 31) = W := ⟨_, rfl⟩
  have hb2 : Below w1.heap.size w1 w2 := by rw [← hw2]; exact (Below.refl _ _).alloc (Nat.le_refl _) _
  have HB2 := Lib.hid ((HB0.out.trans (hb1.mono HB0.out.size)).trans (hb2.mono (Nat.le_trans HB0.out.size hb1.size)))
  have k2 := (KR.out.after hb1).after hb2
  have r0 : w2.cell? ⟨w.heap.size, 0, none⟩ = some (.int .i64 0) := (k2).cell 0 rfl
  have r1 : w2.cell? ⟨w.heap.size, 1, none⟩ = some (.int .i64 0) := (k2).cell 1 rfl
  have r2 : w2.cell? ⟨w.heap.size, 2, none⟩ = some (.int .i64 0) := (k2).cell 2 rfl
  have f0 := (k2).free 0
  have f1 := (k2).free 1
  have f2 := (k2).free 2
  obtain ⟨w9, hw9⟩ : ∃ W, ((w2.setCell ⟨w.heap.size, 0, none⟩ (.int .i64 0)).setCell ⟨w.heap.size, 1, none⟩ (.int .i64 0)).setCell ⟨w.heap.size, 2, none⟩ (.int .i64 0) = W := ⟨_, rfl⟩
  have ht9 : Turn [w.heap.size] w2 w9 := by rw [← hw9]; exact ((Turn.of_grown (grown_setCell _ _ _ _) (by simp)).trans (Turn.of_grown (grown_setCell _ _ _ _) (by simp))).trans (Turn.of_grown (grown_setCell _ _ _ _) (by simp))
  have k9 : Blk w9 (w.heap.size) #[.int .i64 0, .int .i64 0, .int .i64 0] 31 := by rw [← hw9]; exact (((k2).set 0 _).set 1 _).set 2 _
  have HB9 : Hid (Below w.heap.size w w9) := (HB2.out).trans (ht9.below (HB2.out).size (fun b hb => by simp at hb; omega))
  have HW9 := Lib.hid hw9
  rw [← hw2] at r0 r1 r2 f0 f1 f2
  have HW2 := Lib.hid hw2
  clear hw9 ht9 hw2 hb1 hb2 k2
  go_wp2_with fail
  rw [HW2.out, HW9.out]
  have q0 := k9.cell 0 (v := .int .i64 0) rfl
  have q1 := k9.cell 1 (v := .int .i64 0) rfl
  have q2 := k9.cell 2 (v := .int .i64 0) rfl
  refine bodyPost_ret (v := .tuple #[.agg #[.int .i64 0, .int .i64 0, .int .i64 0], .bool false]) (by simp [results, Try.results20, go_sem, q0, q1, q2]) rfl ?_
  exact ⟨rfl, HB9.out⟩
set_option maxHeartbeats 2000000 in
theorem drop_nil (no : Int) (w : World) : Calls Try.prog 25 #[.pointer none, .int .i64 no] w fun e w' => e = .returned (NilV 2) ∧ Below w.heap.size w w' := by
  obtain ⟨w0, hw0⟩ : ∃ W, w.alloc (.cells #[.int .i64 0, .int .i64 0, .int .i64 0] 31) = W := ⟨_, rfl⟩
  have hb0 : Below w.heap.size w w0 := by rw [← hw0]; exact (Below.refl _ _).alloc (Nat.le_refl _) _
  have KR : Hid (Blk w0 w.heap.size #[.int .i64 0, .int .i64 0, .int .i64 0] 31) := by rw [← hw0]; exact Blk.new _ _ _
  have HW0 := Lib.hid hw0
  have HB0 := Lib.hid hb0
  clear hw0 hb0
  go_enter Try.func25, Try.ntmps25
  go_wp2_with fail
  rw [HW0.out]
  with_reducible refine (find_nil no w0).mono ?_
  rintro e w1 ⟨rfl, hw⟩
  obtain rfl : w0 = w1 := hw.symm
  clear hw
  have r0 : w0.cell? ⟨w.heap.size, 0, none⟩ = some (.int .i64 0) := (KR.out).cell 0 rfl
  have r1 : w0.cell? ⟨w.heap.size, 1, none⟩ = some (.int .i64 0) := (KR.out).cell 1 rfl
  have r2 : w0.cell? ⟨w.heap.size, 2, none⟩ = some (.int .i64 0) := (KR.out).cell 2 rfl
  have f0 := (KR.out).free 0
  have f1 := (KR.out).free 1
  have f2 := (KR.out).free 2
  obtain ⟨w9, hw9⟩ : ∃ W, ((w0.setCell ⟨w.heap.size, 0, none⟩ (.int .i64 0)).setCell ⟨w.heap.size, 1, none⟩ (.int .i64 0)).setCell ⟨w.heap.size, 2, none⟩ (.int .i64 0) = W := ⟨_, rfl⟩
  have ht9 : Turn [w.heap.size] w0 w9 := by rw [← hw9]; exact ((Turn.of_grown (grown_setCell _ _ _ _) (by simp)).trans (Turn.of_grown (grown_setCell _ _ _ _) (by simp))).trans (Turn.of_grown (grown_setCell _ _ _ _) (by simp))
  have k9 : Blk w9 (w.heap.size) #[.int .i64 0, .int .i64 0, .int .i64 0] 31 := by rw [← hw9]; exact (((KR.out).set 0 _).set 1 _).set 2 _
  have HB9 : Hid (Below w.heap.size w w9) := (HB0.out).trans (ht9.below (HB0.out).size (fun b hb => by simp at hb; omega))
  have HW9 := Lib.hid hw9
  clear hw9 ht9
  go_wp2_with fail
  rw [HW9.out]
  have q0 := k9.cell 0 (v := .int .i64 0) rfl
  have q1 := k9.cell 1 (v := .int .i64 0) rfl
  have q2 := k9.cell 2 (v := .int .i64 0) rfl
  refine bodyPost_ret (v := .tuple #[.agg #[.int .i64 0, .int .i64 0, .int .i64 0], .int .i64 2]) (by simp [results, Try.results25, go_sem, q0, q1, q2]) rfl ?_
  exact ⟨rfl, HB9.out⟩
set_option maxHeartbeats 2000000 in
set_option maxRecDepth 100000 in
theorem does_nil (a d n : Int) (w : World) : Calls Try.prog 11 #[.pointer none, .agg #[.int .i64 a, .int .i64 d, .int .i64 n]] w fun e w' => e = .returned (NilV (nilE a)) ∧ Below w.heap.size w w' := by
  obtain ⟨w0, hw0⟩ : ∃ W, (w.alloc (.cells #[.int .i64 a, .int .i64 d, .int .i64 n] 36)).alloc (.cells #[.int .i64 0, .int .i64 0, .int .i64 0] 31) = W := ⟨_, rfl⟩
  have hb0 : Below w.heap.size w w0 := by rw [← hw0]; exact ((Below.refl _ _).alloc (Nat.le_refl _) _).alloc (by simp) _
  have KX : Blk w0 w.heap.size #[.int .i64 a, .int .i64 d, .int .i64 n] 36 := by rw [← hw0]; exact (Blk.new _ _ _).alloc _
  have KR : Blk w0 (w.heap.size + 1) #[.int .i64 0, .int .i64 0, .int .i64 0] 31 := by
    rw [← hw0]
    have := Blk.new (w.alloc (.cells #[.int .i64 a, .int .i64 d, .int .i64 n] 36)) #[.int .i64 0, .int .i64 0, .int .i64 0] 31
    rw [World.size_alloc] at this
    exact this
  have x0 : w0.cell? ⟨w.heap.size, 0, none⟩ = some (.int .i64 a) := KX.cell 0 rfl
  have x1 : w0.cell? ⟨w.heap.size, 1, none⟩ = some (.int .i64 d) := KX.cell 1 rfl
  have x2 : w0.cell? ⟨w.heap.size, 2, none⟩ = some (.int .i64 n) := KX.cell 2 rfl
  have HB0 := Lib.hid hb0
  have HKR := Lib.hid KR
  have HW0 := Lib.hid hw0
  rw [← hw0] at x0 x1 x2
  clear hw0 hb0 KX KR
  by_cases ha0 : a = 0
  · subst ha0
    go_enter Try.func11, Try.ntmps11
    go_wp2_with fail
    rw [HW0.out]
    with_reducible refine (put_nil d n w0).mono ?_
    rintro e w1 ⟨rfl, hb1⟩
    have z0 : w0.heap.size = w.heap.size + 2 := by rw [← HW0.out]; simp
    have r0 : w1.cell? ⟨w.heap.size + 1, 0, none⟩ = some (.int .i64 0) := ((HKR.out.after hb1)).cell 0 rfl
    have r1 : w1.cell? ⟨w.heap.size + 1, 1, none⟩ = some (.int .i64 0) := ((HKR.out.after hb1)).cell 1 rfl
    have r2 : w1.cell? ⟨w.heap.size + 1, 2, none⟩ = some (.int .i64 0) := ((HKR.out.after hb1)).cell 2 rfl
    have f0 := ((HKR.out.after hb1)).free 0
    have f1 := ((HKR.out.after hb1)).free 1
    have f2 := ((HKR.out.after hb1)).free 2
    obtain ⟨w9, hw9⟩ : ∃ W, ((w1.setCell ⟨w.heap.size + 1, 0, none⟩ (.int .i64 0)).setCell ⟨w.heap.size + 1, 1, none⟩ (.int .i64 0)).setCell ⟨w.heap.size + 1, 2, none⟩ (.int .i64 0) = W := ⟨_, rfl⟩
    have ht9 : Turn [w.heap.size + 1] w1 w9 := by rw [← hw9]; exact ((Turn.of_grown (grown_setCell _ _ _ _) (by simp)).trans (Turn.of_grown (grown_setCell _ _ _ _) (by simp))).trans (Turn.of_grown (grown_setCell _ _ _ _) (by simp))
    have k9 : Blk w9 (w.heap.size + 1) #[.int .i64 0, .int .i64 0, .int .i64 0] 31 := by rw [← hw9]; exact ((((HKR.out.after hb1)).set 0 _).set 1 _).set 2 _
    have HB9 : Hid (Below w.heap.size w w9) := ((HB0.out.trans (hb1.mono HB0.out.size))).trans (ht9.below ((HB0.out.trans (hb1.mono HB0.out.size))).size (fun b hb => by simp at hb; omega))
    have HW9 := Lib.hid hw9
    clear hb1
    clear hw9 ht9
    go_wp2_with fail
    rw [HW9.out]
    have q0 := k9.cell 0 (v := .int .i64 0) rfl
    have q1 := k9.cell 1 (v := .int .i64 0) rfl
    have q2 := k9.cell 2 (v := .int .i64 0) rfl
    refine bodyPost_ret (v := .tuple #[.agg #[.int .i64 0, .int .i64 0, .int .i64 0], .int .i64 2]) (by simp [results, Try.results11, go_sem, q0, q1, q2]) rfl ?_
    exact ⟨rfl, HB9.out⟩
  have a0 : (a == 0) = false := by rw [beq_eq_false_iff_ne]; exact ha0
  by_cases ha1 : a = 1
  · subst ha1
    clear a0 ha0
    go_enter Try.func11, Try.ntmps11
    go_wp2_with fail
    rw [HW0.out]
    with_reducible refine (take_nil d w0).mono ?_
    rintro e w1 ⟨rfl, hb1⟩
    obtain ⟨w2, hw2⟩ : ∃ W, w1.alloc (.cells #[.int .i64 0, .int .i64 0, .int .i64 0] 31) = W := ⟨_, rfl⟩
    have hb2 : Below w1.heap.size w1 w2 := by rw [← hw2]; exact (Below.refl _ _).alloc (Nat.le_refl _) _
    have KY : Blk w2 w1.heap.size #[.int .i64 0, .int .i64 0, .int .i64 0] 31 := by rw [← hw2]; exact Blk.new _ _ _
    have y0 : w2.cell? ⟨w1.heap.size, 0, none⟩ = some (.int .i64 0) := KY.cell 0 rfl
    have y1 : w2.cell? ⟨w1.heap.size, 1, none⟩ = some (.int .i64 0) := KY.cell 1 rfl
    have y2 : w2.cell? ⟨w1.heap.size, 2, none⟩ = some (.int .i64 0) := KY.cell 2 rfl
    have HW2 := Lib.hid hw2
    have hb02 := (HB0.out.trans (hb1.mono HB0.out.size)).trans (hb2.mono (Nat.le_trans HB0.out.size hb1.size))
    have HB2 := Lib.hid hb02
    have HK2 := Lib.hid ((HKR.out.after hb1).after hb2)
    have z0 : w0.heap.size = w.heap.size + 2 := by rw [← HW0.out]; simp
    have r0 : w2.cell? ⟨w.heap.size + 1, 0, none⟩ = some (.int .i64 0) := ((HK2.out)).cell 0 rfl
    have r1 : w2.cell? ⟨w.heap.size + 1, 1, none⟩ = some (.int .i64 0) := ((HK2.out)).cell 1 rfl
    have r2 : w2.cell? ⟨w.heap.size + 1, 2, none⟩ = some (.int .i64 0) := ((HK2.out)).cell 2 rfl
    have f0 := ((HK2.out)).free 0
    have f1 := ((HK2.out)).free 1
    have f2 := ((HK2.out)).free 2
    obtain ⟨w9, hw9⟩ : ∃ W, ((w2.setCell ⟨w.heap.size + 1, 0, none⟩ (.int .i64 0)).setCell ⟨w.heap.size + 1, 1, none⟩ (.int .i64 0)).setCell ⟨w.heap.size + 1, 2, none⟩ (.int .i64 0) = W := ⟨_, rfl⟩
    have ht9 : Turn [w.heap.size + 1] w2 w9 := by rw [← hw9]; exact ((Turn.of_grown (grown_setCell _ _ _ _) (by simp)).trans (Turn.of_grown (grown_setCell _ _ _ _) (by simp))).trans (Turn.of_grown (grown_setCell _ _ _ _) (by simp))
    have k9 : Blk w9 (w.heap.size + 1) #[.int .i64 0, .int .i64 0, .int .i64 0] 31 := by rw [← hw9]; exact ((((HK2.out)).set 0 _).set 1 _).set 2 _
    have HB9 : Hid (Below w.heap.size w w9) := ((HB2.out)).trans (ht9.below ((HB2.out)).size (fun b hb => by simp at hb; omega))
    have HW9 := Lib.hid hw9
    rw [← hw2] at r0 r1 r2 f0 f1 f2 y0 y1 y2; clear hw2 KY hb2 hb1 hb02
    clear hw9 ht9
    go_wp2_with fail
    rw [HW2.out, HW9.out]
    have q0 := k9.cell 0 (v := .int .i64 0) rfl
    have q1 := k9.cell 1 (v := .int .i64 0) rfl
    have q2 := k9.cell 2 (v := .int .i64 0) rfl
    refine bodyPost_ret (v := .tuple #[.agg #[.int .i64 0, .int .i64 0, .int .i64 0], .int .i64 16]) (by simp [results, Try.results11, go_sem, q0, q1, q2]) rfl ?_
    exact ⟨rfl, HB9.out⟩
  have a1 : (a == 1) = false := by rw [beq_eq_false_iff_ne]; exact ha1
  by_cases ha2 : a = 2
  · subst ha2
    clear a0 ha0 a1 ha1
    go_enter Try.func11, Try.ntmps11
    go_wp2_with fail
    rw [HW0.out]
    with_reducible refine (drop_nil n w0).mono ?_
    rintro e w1 ⟨rfl, hb1⟩
    unfold NilV
    have z0 : w0.heap.size = w.heap.size + 2 := by rw [← HW0.out]; simp
    have r0 : w1.cell? ⟨w.heap.size + 1, 0, none⟩ = some (.int .i64 0) := ((HKR.out.after hb1)).cell 0 rfl
    have r1 : w1.cell? ⟨w.heap.size + 1, 1, none⟩ = some (.int .i64 0) := ((HKR.out.after hb1)).cell 1 rfl
    have r2 : w1.cell? ⟨w.heap.size + 1, 2, none⟩ = some (.int .i64 0) := ((HKR.out.after hb1)).cell 2 rfl
    have f0 := ((HKR.out.after hb1)).free 0
    have f1 := ((HKR.out.after hb1)).free 1
    have f2 := ((HKR.out.after hb1)).free 2
    obtain ⟨w9, hw9⟩ : ∃ W, ((w1.setCell ⟨w.heap.size + 1, 0, none⟩ (.int .i64 0)).setCell ⟨w.heap.size + 1, 1, none⟩ (.int .i64 0)).setCell ⟨w.heap.size + 1, 2, none⟩ (.int .i64 0) = W := ⟨_, rfl⟩
    have ht9 : Turn [w.heap.size + 1] w1 w9 := by rw [← hw9]; exact ((Turn.of_grown (grown_setCell _ _ _ _) (by simp)).trans (Turn.of_grown (grown_setCell _ _ _ _) (by simp))).trans (Turn.of_grown (grown_setCell _ _ _ _) (by simp))
    have k9 : Blk w9 (w.heap.size + 1) #[.int .i64 0, .int .i64 0, .int .i64 0] 31 := by rw [← hw9]; exact ((((HKR.out.after hb1)).set 0 _).set 1 _).set 2 _
    have HB9 : Hid (Below w.heap.size w w9) := ((HB0.out.trans (hb1.mono HB0.out.size))).trans (ht9.below ((HB0.out.trans (hb1.mono HB0.out.size))).size (fun b hb => by simp at hb; omega))
    have HW9 := Lib.hid hw9
    clear hb1
    clear hw9 ht9
    go_wp2_with fail
    rw [HW9.out]
    have q0 := k9.cell 0 (v := .int .i64 0) rfl
    have q1 := k9.cell 1 (v := .int .i64 0) rfl
    have q2 := k9.cell 2 (v := .int .i64 0) rfl
    refine bodyPost_ret (v := .tuple #[.agg #[.int .i64 0, .int .i64 0, .int .i64 0], .int .i64 2]) (by simp [results, Try.results11, go_sem, q0, q1, q2]) rfl ?_
    exact ⟨rfl, HB9.out⟩
  have a2 : (a == 2) = false := by rw [beq_eq_false_iff_ne]; exact ha2
  have hif : Hid (nilE a = 2) := if_neg ha1
  clear ha0 ha1 ha2
  go_enter Try.func11, Try.ntmps11
  go_wp2_with fail
  rw [HW0.out]
  with_reducible refine (move_nil n d w0).mono ?_
  rintro e w1 ⟨rfl, hw⟩
  obtain rfl : w0 = w1 := hw.symm
  clear hw
  have z0 : w0.heap.size = w.heap.size + 2 := by rw [← HW0.out]; simp
  have r0 : w0.cell? ⟨w.heap.size + 1, 0, none⟩ = some (.int .i64 0) := ((HKR.out)).cell 0 rfl
  have r1 : w0.cell? ⟨w.heap.size + 1, 1, none⟩ = some (.int .i64 0) := ((HKR.out)).cell 1 rfl
  have r2 : w0.cell? ⟨w.heap.size + 1, 2, none⟩ = some (.int .i64 0) := ((HKR.out)).cell 2 rfl
  have f0 := ((HKR.out)).free 0
  have f1 := ((HKR.out)).free 1
  have f2 := ((HKR.out)).free 2
  obtain ⟨w9, hw9⟩ : ∃ W, ((w0.setCell ⟨w.heap.size + 1, 0, none⟩ (.int .i64 0)).setCell ⟨w.heap.size + 1, 1, none⟩ (.int .i64 0)).setCell ⟨w.heap.size + 1, 2, none⟩ (.int .i64 0) = W := ⟨_, rfl⟩
  have ht9 : Turn [w.heap.size + 1] w0 w9 := by rw [← hw9]; exact ((Turn.of_grown (grown_setCell _ _ _ _) (by simp)).trans (Turn.of_grown (grown_setCell _ _ _ _) (by simp))).trans (Turn.of_grown (grown_setCell _ _ _ _) (by simp))
  have k9 : Blk w9 (w.heap.size + 1) #[.int .i64 0, .int .i64 0, .int .i64 0] 31 := by rw [← hw9]; exact ((((HKR.out)).set 0 _).set 1 _).set 2 _
  have HB9 : Hid (Below w.heap.size w w9) := ((HB0.out)).trans (ht9.below ((HB0.out)).size (fun b hb => by simp at hb; omega))
  have HW9 := Lib.hid hw9
  skip
  clear hw9 ht9
  go_wp2_with fail
  rw [HW9.out]
  have q0 := k9.cell 0 (v := .int .i64 0) rfl
  have q1 := k9.cell 1 (v := .int .i64 0) rfl
  have q2 := k9.cell 2 (v := .int .i64 0) rfl
  refine bodyPost_ret (v := .tuple #[.agg #[.int .i64 0, .int .i64 0, .int .i64 0], .int .i64 2]) (by simp [results, Try.results11, go_sem, q0, q1, q2]) rfl ?_
  exact ⟨by rw [hif.out]; rfl, HB9.out⟩

end Go.Proofs.Ytgcncnmkfpfccaa
