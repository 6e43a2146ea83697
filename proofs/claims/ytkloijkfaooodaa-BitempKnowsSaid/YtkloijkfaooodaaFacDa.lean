/- Package facts: Choose. -/
import Derived.Test.YtkloijkfaooodaaFacC
namespace Go.Proofs.Ytkloijkfaooodaa
open Go.RowKit
set_option linter.unusedVariables false
set_option linter.unusedSimpArgs false



set_option maxHeartbeats 2000000 in
set_option maxRecDepth 100000 in
theorem choose_ok (p ba bc : Nat) (A : List Fx) (C : List Ch) (x : Ch) (w : World) (h : FactsAt w p ba bc A C) :
    Calls Try.prog 45 #[.pointer (some ⟨p, 0, none⟩), .agg (encH x).toArray] w (ChooseEnd w p ba bc A C x) := by
  obtain ⟨k, d, q⟩ := x
  have HF := Lib.hid h
  have hp := h.blk.lt
  have hba := h.mc.lt
  obtain ⟨V, hV⟩ : ∃ V, wrongH ⟨k, d, q⟩ = V := ⟨_, rfl⟩
  have HEND : Hid (ChooseEnd w p ba bc A C ⟨k, d, q⟩ = fun e w' => e = .returned (.int .i64 V) ∧ w.grownBy w' (some bc) ∧ FactsAt w' p ba bc A (if V = 0 then putK Ch.ky C ⟨k, d, q⟩ else C)) := by
    show _ = _
    unfold ChooseEnd
    rw [hV]
  unfold wrongH at hV
  dsimp only at hV
  clear h
  show Calls _ _ #[_, .agg #[.int .i64 k, .int .i64 d, .int .i64 q]] _ _
  by_cases h1 : q = 1
  · subst h1
    have HM := Lib.hid (fun W => may_ok p k d true W)
    rw [show decide ((1 : Int) = 1 ∨ (1 : Int) = 2) = true from rfl] at hV
    rw [hV] at HM
    clear hV
    by_cases h2 : V = 0
    · subst h2
      obtain ⟨q, hq⟩ : ∃ q : Int, (1 : Int) = q := ⟨_, rfl⟩
      rw [hq] at HEND ⊢
      have h1q : (q == 1) = true := by simp [← hq]
      clear hq
      go_enter Try.func45, Try.ntmps45
      go_wp2_with fail
      with_reducible refine (HM.out _).mono ?_
      rintro e w1 ⟨rfl, rfl⟩
      have k2 : Blk (w.alloc (.cells #[.int .i64 k, .int .i64 d, .int .i64 q] 89)) w.heap.size #[.int .i64 k, .int .i64 d, .int .i64 q] 89 := Blk.new _ _ _
      have b1 := ((RowKit.Below.refl w.heap.size w).alloc (Nat.le_refl _) (.cells #[.int .i64 k, .int .i64 d, .int .i64 q] 89))
      obtain ⟨w2, hw2⟩ : ∃ w2, w.alloc (.cells #[.int .i64 k, .int .i64 d, .int .i64 q] 89) = w2 := ⟨_, rfl⟩
      rw [hw2] at k2 b1 ⊢
      have F2 := Lib.hid (HF.out.after b1)
      have B2 := Lib.hid b1
      clear hw2
      have c0 : w2.cell? ⟨p, 1, none⟩ = some (.map (some bc)) := F2.out.blk.cell 1 rfl
      have c1 : w2.cell? ⟨w.heap.size, 0, none⟩ = some (.int .i64 k) := k2.cell 0 rfl
      have c2 : w2.cell? ⟨w.heap.size, 1, none⟩ = some (.int .i64 d) := k2.cell 1 rfl
      have c3 : w2.cell? ⟨w.heap.size, 2, none⟩ = some (.int .i64 q) := k2.cell 2 rfl
      clear b1 k2
      have hmx : Try.prog.follows .mixedOrders = true := by kernel_rfl
      go_wp2_with fail
      go_still_tail 10, hmx
      refine wpList_store _ rfl _ _ _ 126 rfl keyP Try.underlying126 rfl (F2.out.after ((RowKit.Below.refl _ _).drew)).mc (plV (k, d)) (.agg #[.int .i64 k, .int .i64 d, .int .i64 q]) rfl rfl ⟨_, rfl⟩ ?_
      intro w3 hm3 hg3 hs3
      go_wp2_with fail
      rw [HEND.out]
      go_ret
      have G3 : w2.grownBy w3 (some bc) := (below_row ((RowKit.Below.refl _ _).drew) _).trans hg3
      have F3 := F2.out
      refine ⟨rfl, (below_row B2.out _).trans G3, ?_⟩
      refine ⟨F3.blk.grown G3 (by have := F3.pa.2; simpa using fun e => this e.symm), F3.ma.kept G3 (by simpa using fun e => F3.ne e.symm), ?_, F3.ra, putK_rising F3.rc, F3.ne⟩
      rw [if_pos trivial]
      exact hm3.congr (entH_put F3.rc (x := ⟨k, d, q⟩))
    · obtain ⟨q, hq⟩ : ∃ q : Int, (1 : Int) = q := ⟨_, rfl⟩
      rw [hq] at HEND ⊢
      have h1q : (q == 1) = true := by simp [← hq]
      clear hq
      have h2' : (V == 0) = false := by simpa using h2
      rw [if_neg h2] at HEND
      go_enter Try.func45, Try.ntmps45
      go_wp2_with fail
      with_reducible refine (HM.out _).mono ?_
      rintro e w1 ⟨rfl, rfl⟩
      go_wp2_with fail
      rw [HEND.out]
      go_ret
      have B1 := ((RowKit.Below.refl w.heap.size w).alloc (Nat.le_refl _) (.cells #[.int .i64 k, .int .i64 d, .int .i64 q] 89))
      exact ⟨rfl, below_row B1 _, HF.out.after B1⟩
  have h1q : (q == 1) = false := by simpa using h1
  by_cases h3 : q = 2
  · subst h3
    have HM := Lib.hid (fun W => may_ok p k d true W)
    rw [show decide ((2 : Int) = 1 ∨ (2 : Int) = 2) = true from rfl] at hV
    rw [hV] at HM
    clear hV h1 h1q
    by_cases h2 : V = 0
    · subst h2
      obtain ⟨q, hq⟩ : ∃ q : Int, (2 : Int) = q := ⟨_, rfl⟩
      rw [hq] at HEND ⊢
      have h1q : (q == 1) = false := by simp [← hq]
      have h2q : (q == 2) = true := by simp [← hq]
      clear hq
      go_enter Try.func45, Try.ntmps45
      go_wp2_with fail
      with_reducible refine (HM.out _).mono ?_
      rintro e w1 ⟨rfl, rfl⟩
      have k2 : Blk (w.alloc (.cells #[.int .i64 k, .int .i64 d, .int .i64 q] 89)) w.heap.size #[.int .i64 k, .int .i64 d, .int .i64 q] 89 := Blk.new _ _ _
      have b1 := ((RowKit.Below.refl w.heap.size w).alloc (Nat.le_refl _) (.cells #[.int .i64 k, .int .i64 d, .int .i64 q] 89))
      obtain ⟨w2, hw2⟩ : ∃ w2, w.alloc (.cells #[.int .i64 k, .int .i64 d, .int .i64 q] 89) = w2 := ⟨_, rfl⟩
      rw [hw2] at k2 b1 ⊢
      have F2 := Lib.hid (HF.out.after b1)
      have B2 := Lib.hid b1
      clear hw2
      have c0 : w2.cell? ⟨p, 1, none⟩ = some (.map (some bc)) := F2.out.blk.cell 1 rfl
      have c1 : w2.cell? ⟨w.heap.size, 0, none⟩ = some (.int .i64 k) := k2.cell 0 rfl
      have c2 : w2.cell? ⟨w.heap.size, 1, none⟩ = some (.int .i64 d) := k2.cell 1 rfl
      have c3 : w2.cell? ⟨w.heap.size, 2, none⟩ = some (.int .i64 q) := k2.cell 2 rfl
      clear b1 k2
      have hmx : Try.prog.follows .mixedOrders = true := by kernel_rfl
      go_wp2_with fail
      go_still_tail 10, hmx
      refine wpList_store _ rfl _ _ _ 126 rfl keyP Try.underlying126 rfl (F2.out.after ((RowKit.Below.refl _ _).drew)).mc (plV (k, d)) (.agg #[.int .i64 k, .int .i64 d, .int .i64 q]) rfl rfl ⟨_, rfl⟩ ?_
      intro w3 hm3 hg3 hs3
      go_wp2_with fail
      rw [HEND.out]
      go_ret
      have G3 : w2.grownBy w3 (some bc) := (below_row ((RowKit.Below.refl _ _).drew) _).trans hg3
      have F3 := F2.out
      refine ⟨rfl, (below_row B2.out _).trans G3, ?_⟩
      refine ⟨F3.blk.grown G3 (by have := F3.pa.2; simpa using fun e => this e.symm), F3.ma.kept G3 (by simpa using fun e => F3.ne e.symm), ?_, F3.ra, putK_rising F3.rc, F3.ne⟩
      rw [if_pos trivial]
      exact hm3.congr (entH_put F3.rc (x := ⟨k, d, q⟩))
    · obtain ⟨q, hq⟩ : ∃ q : Int, (2 : Int) = q := ⟨_, rfl⟩
      rw [hq] at HEND ⊢
      have h1q : (q == 1) = false := by simp [← hq]
      have h2q : (q == 2) = true := by simp [← hq]
      clear hq
      have h2' : (V == 0) = false := by simpa using h2
      rw [if_neg h2] at HEND
      go_enter Try.func45, Try.ntmps45
      go_wp2_with fail
      with_reducible refine (HM.out _).mono ?_
      rintro e w1 ⟨rfl, rfl⟩
      go_wp2_with fail
      rw [HEND.out]
      go_ret
      have B1 := ((RowKit.Below.refl w.heap.size w).alloc (Nat.le_refl _) (.cells #[.int .i64 k, .int .i64 d, .int .i64 q] 89))
      exact ⟨rfl, below_row B1 _, HF.out.after B1⟩
  have h2q : (q == 2) = false := by simpa using h3
  have HM := Lib.hid (fun W => may_ok p k d false W)
  rw [show decide (q = 1 ∨ q = 2) = false from decide_eq_false (by omega)] at hV
  rw [hV] at HM
  have h2 : V ≠ 0 := by rw [← hV]; unfold mayV; rw [if_pos (Or.inr (Or.inr rfl))]; decide
  clear hV h1 h3
  have h2' : (V == 0) = false := by simpa using h2
  rw [if_neg h2] at HEND
  go_enter Try.func45, Try.ntmps45
  go_wp2_with fail
  with_reducible refine (HM.out _).mono ?_
  rintro e w1 ⟨rfl, rfl⟩
  go_wp2_with fail
  rw [HEND.out]
  go_ret
  have B1 := ((RowKit.Below.refl w.heap.size w).alloc (Nat.le_refl _) (.cells #[.int .i64 k, .int .i64 d, .int .i64 q] 89))
  exact ⟨rfl, below_row B1 _, HF.out.after B1⟩

/-! ### look-ups -/

end Go.Proofs.Ytkloijkfaooodaa
