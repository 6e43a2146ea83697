/- The law's awake. -/
import Derived.Test.YtkloijkfaooodaaBitK
namespace Go.Proofs.Ytkloijkfaooodaa
open Go.RowKit Go.Shelf
set_option linter.unusedVariables false
set_option linter.unusedSimpArgs false

theorem StAt.bs_ge {w : World} {base p bm : Nat} {sv : Value} {V : List Vs} (h : StAt w base p bm sv V) : ∀ b ∈ StAt.bs p bm sv, base ≤ b := fun b hb => by
  unfold StAt.bs at hb
  rcases List.mem_cons.1 hb with rfl | hb
  · exact h.hp
  · rcases List.mem_cons.1 hb with rfl | hb
    · exact h.hm
    · exact (own_cells h.own (Option.mem_toList.1 hb)).1
def va : Vs := ⟨1, false, 0, 5, 3, 1, 0⟩
def vb : Vs := ⟨4, false, 0, 5, 7, 1, 0⟩
theorem aw1 : callO [] va = none ∧ callE [] va = 0 ∧ callV [] va = [va] := by decide +kernel
theorem aw2 : callO [va] vb = some va ∧ callE [va] vb = 0 ∧ callV [va] vb = [va, vb] := by decide +kernel
theorem aw3 : latP [va, vb] (false, 0, 5) 3 = some va ∧ latP [va, vb] (false, 0, 5) 4 = some vb := by decide +kernel
theorem awV1 : callV3 [] va = .tuple #[.agg #[.int .i64 0, .bool false, .int .i64 0, .int .i64 0, .int .i64 0, .int .i64 0, .int .i64 0], .bool false, .int .i64 0] := by
  unfold callV3
  rw [aw1.1, aw1.2.1]
  rfl
theorem awV2 : callV3 [va] vb = .tuple #[.agg #[.int .i64 1, .bool false, .int .i64 0, .int .i64 5, .int .i64 3, .int .i64 1, .int .i64 0], .bool true, .int .i64 0] := by
  unfold callV3
  rw [aw2.1, aw2.2.1]
  rfl
theorem awL1 : latV (latP [va, vb] (false, 0, 5) 3) = .tuple #[.agg #[.int .i64 1, .bool false, .int .i64 0, .int .i64 5, .int .i64 3, .int .i64 1, .int .i64 0], .bool true] := by rw [aw3.1]; rfl
theorem awL2 : latV (latP [va, vb] (false, 0, 5) 4) = .tuple #[.agg #[.int .i64 4, .bool false, .int .i64 0, .int .i64 5, .int .i64 7, .int .i64 1, .int .i64 0], .bool true] := by rw [aw3.2]; rfl
set_option maxRecDepth 100000 in
set_option maxHeartbeats 4000000 in
theorem awake_ok12 (w : World) : Calls Try.prog 11 #[] w fun e w' => e = .returned (.bool true) ∧ Below w.heap.size w w' := by
  go_enter Try.func11, Try.ntmps11
  go_wp2_with fail
  with_reducible refine (bnew_ok w.heap.size w (Nat.le_refl _)).mono ?_
  rintro e w1 ⟨p, bm, rfl, hS, hb1, gp, gm⟩
  have HS1 := Lib.hid hS
  have HB1 := Lib.hid hb1
  clear hS hb1
  have h2 : Calls Try.prog 36 #[.pointer (some ⟨p, 0, none⟩), .int .i64 1, .agg #[.int .i64 0, .int .i64 5, .int .i64 3, .int .i64 1]] w1 (CallEnd w1 w.heap.size p bm (.slice none 0 0) [] va) := bfix_ok w.heap.size p bm _ [] 1 0 5 3 1 (by unfold I64; exact ⟨by decide, by decide⟩) (by unfold I64; exact ⟨by decide, by decide⟩) w1 HB1.out.size HS1.out (by simp)
  have HC2 := Lib.hid h2
  clear h2
  go_wp2_with fail
  with_reducible refine HC2.out.mono ?_
  rintro e w2 ⟨sv2, rfl, hst2, ht2, _⟩
  rw [awV1]
  rw [aw1.2.2] at hst2
  have hb2 : Below w.heap.size w w2 := HB1.out.trans (ht2.below HB1.out.size HS1.out.bs_ge)
  have hb3 : Below w2.heap.size w2 (w2.alloc (.cells #[.int .i64 0, .bool false, .int .i64 0, .int .i64 0, .int .i64 0, .int .i64 0, .int .i64 0] 26)) := (Below.refl _ _).alloc (Nat.le_refl _) _
  obtain ⟨w3, hw3⟩ : ∃ W, w2.alloc (.cells #[.int .i64 0, .bool false, .int .i64 0, .int .i64 0, .int .i64 0, .int .i64 0, .int .i64 0] 26) = W := ⟨_, rfl⟩
  rw [hw3] at hb3
  have HW3 := Lib.hid hw3
  have HS3 := Lib.hid (hst2.after hb3)
  have HB3 := Lib.hid (hb2.trans (hb3.mono hb2.size))
  clear HC2 hw3 hst2 ht2 hb2 hb3 HS1
  go_wp2_with fail
  rw [HW3.out]
  have h4 : Calls Try.prog 36 #[.pointer (some ⟨p, 0, none⟩), .int .i64 4, .agg #[.int .i64 0, .int .i64 5, .int .i64 7, .int .i64 1]] w3 (CallEnd w3 w.heap.size p bm sv2 [va] vb) := bfix_ok w.heap.size p bm _ [va] 4 0 5 7 1 (by unfold I64; exact ⟨by decide, by decide⟩) (by unfold I64; exact ⟨by decide, by decide⟩) w3 HB3.out.size HS3.out (by simp)
  with_reducible refine h4.mono ?_
  clear h4
  rintro e w4 ⟨sv4, rfl, hst4, ht4, _⟩
  rw [awV2]
  rw [aw2.2.2] at hst4
  have hb4 : Below w.heap.size w w4 := HB3.out.trans (ht4.below HB3.out.size HS3.out.bs_ge)
  obtain ⟨w5, hw5⟩ : ∃ W, w4.alloc (.cells #[.int .i64 1, .bool false, .int .i64 0, .int .i64 5, .int .i64 3, .int .i64 1, .int .i64 0] 26) = W := ⟨_, rfl⟩
  have hb5 : Below w4.heap.size w4 w5 := by rw [← hw5]; exact (Below.refl _ _).alloc (Nat.le_refl _) _
  have K5 : Hid (Blk w5 w4.heap.size #[.int .i64 1, .bool false, .int .i64 0, .int .i64 5, .int .i64 3, .int .i64 1, .int .i64 0] 26) := by rw [← hw5]; exact Blk.new _ _ _
  have HW5 := Lib.hid hw5
  have HS5 := Lib.hid (hst4.after hb5)
  have HB5 := Lib.hid (hb4.trans (hb5.mono hb4.size))
  clear hw5 hst4 ht4 hb4 hb5 HS3 HW3
  go_wp2_with fail
  rw [HW5.out]
  with_reducible refine (lat_ok w.heap.size p bm _ _ false 0 5 3 w5 HS5.out (by simp)).mono ?_
  rintro e w6 ⟨rfl, hb6⟩
  rw [awL1]
  obtain ⟨w7, hw7⟩ : ∃ W, w6.alloc (.cells #[.int .i64 1, .bool false, .int .i64 0, .int .i64 5, .int .i64 3, .int .i64 1, .int .i64 0] 26) = W := ⟨_, rfl⟩
  have hb7 : Below w6.heap.size w6 w7 := by rw [← hw7]; exact (Below.refl _ _).alloc (Nat.le_refl _) _
  have K7 : Hid (Blk w7 w6.heap.size #[.int .i64 1, .bool false, .int .i64 0, .int .i64 5, .int .i64 3, .int .i64 1, .int .i64 0] 26) := by rw [← hw7]; exact Blk.new _ _ _
  have HW7 := Lib.hid hw7
  have hb57 := hb6.trans (hb7.mono hb6.size)
  have HS7 := Lib.hid (HS5.out.after hb57)
  have K57 := Lib.hid (K5.out.after hb57)
  have HB7 := Lib.hid (HB5.out.trans (hb57.mono HB5.out.size))
  clear hw7 hb6 hb7 hb57 HS5 K5 HW5
  go_wp2_with fail
  rw [HW7.out]
  with_reducible refine (lat_ok w.heap.size p bm _ _ false 0 5 4 w7 HS7.out (by simp)).mono ?_
  rintro e w8 ⟨rfl, hb8⟩
  rw [awL2]
  obtain ⟨w9, hw9⟩ : ∃ W, w8.alloc (.cells #[.int .i64 4, .bool false, .int .i64 0, .int .i64 5, .int .i64 7, .int .i64 1, .int .i64 0] 26) = W := ⟨_, rfl⟩
  have hb9 : Below w8.heap.size w8 w9 := by rw [← hw9]; exact (Below.refl _ _).alloc (Nat.le_refl _) _
  have K9 : Blk w9 w8.heap.size #[.int .i64 4, .bool false, .int .i64 0, .int .i64 5, .int .i64 7, .int .i64 1, .int .i64 0] 26 := by rw [← hw9]; exact Blk.new _ _ _
  have HW9 := Lib.hid hw9
  have hb79 := hb8.trans (hb9.mono hb8.size)
  have K59 := K57.out.after hb79
  have K79 := K7.out.after hb79
  have HB9 := Lib.hid (HB7.out.trans (hb79.mono HB7.out.size))
  have c5 : w9.cell? ⟨w4.heap.size, 0, none⟩ = some (.int .i64 1) := K59.cell 0 rfl
  have c7 : w9.cell? ⟨w6.heap.size, 4, none⟩ = some (.int .i64 3) := K79.cell 4 rfl
  have c9 : w9.cell? ⟨w8.heap.size, 4, none⟩ = some (.int .i64 7) := K9.cell 4 rfl
  rw [← hw9] at c5 c7 c9
  clear hw9 hb8 hb9 hb79 K59 K79 K9 K57 K7 HS7 HW7
  go_wp2_with fail
  rw [HW9.out]
  go_ret
  exact ⟨rfl, HB9.out⟩

end Go.Proofs.Ytkloijkfaooodaa
