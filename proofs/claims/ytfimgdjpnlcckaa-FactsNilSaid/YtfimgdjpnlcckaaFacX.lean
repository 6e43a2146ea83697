/- The statement FactsNil: its walk. -/
import Derived.Test.YtfimgdjpnlcckaaFacR
namespace Go.Proofs.Ytfimgdjpnlcckaa
open Go.RowKit
set_option linter.unusedVariables false
set_option linter.unusedSimpArgs false

theorem tell_nil (x : Tl) (w : World) : Calls Try.prog 11 #[.pointer none, .agg (encT x).toArray] w fun e w' => e = .returned (.int .i64 2) ∧ Below w.heap.size w w' := by
  have hb0 : Below w.heap.size w (w.alloc (.cells (encT x).toArray 31)) := (Below.refl _ _).alloc (Nat.le_refl _) _
  have HB0 := Lib.hid hb0
  have hb := Blk.new w (encT x).toArray 31
  clear hb0
  obtain ⟨c, k, d, n, m, p⟩ := x
  dsimp only [encT] at *
  have x0 := hb.cell 0 rfl
  have x1 := hb.cell 1 rfl
  have x2 := hb.cell 2 rfl
  have x3 := hb.cell 3 rfl
  have x4 := hb.cell 4 rfl
  have x5 := hb.cell 5 rfl
  clear hb
  cases c with
  | true =>
    have HC := Lib.hid (choose_nil ⟨k, d, p⟩)
    dsimp only [encH] at HC
    go_enter Try.func11, Try.ntmps11
    go_wp2_with fail
    with_reducible refine (HC.out _).mono ?_
    rintro e w1 ⟨rfl, hb1⟩
    go_wp2_with fail
    go_ret
    exact ⟨rfl, HB0.out.trans (hb1.mono HB0.out.size)⟩
  | false =>
    have HC := Lib.hid (fix_nil ⟨k, d, n, m⟩)
    dsimp only [encX] at HC
    go_enter Try.func11, Try.ntmps11
    go_wp2_with fail
    with_reducible refine (HC.out _).mono ?_
    rintro e w1 ⟨rfl, hb1⟩
    go_wp2_with fail
    go_ret
    exact ⟨rfl, HB0.out.trans (hb1.mono HB0.out.size)⟩
theorem neqfX (fn : Fn) (a b : Array Value) (w : World) : (binOp .neq 64 (.func fn a b) .nilFunc).run Try.prog w = .ok (.bool true) w := by kernel_rfl
theorem neqfH (fn : Fn) (a b : Array Value) (w : World) : (binOp .neq 68 (.func fn a b) .nilFunc).run Try.prog w = .ok (.bool true) w := by kernel_rfl
theorem copy_nil (w : World) : Calls Try.prog 23 #[.pointer none] w fun e w' => e = .returned (.pointer none) ∧ w' = w := by
  go_enter Try.func23, Try.ntmps23
  go_wp2_with fail
  go_ret
  exact ⟨rfl, rfl⟩
set_option maxHeartbeats 8000000 in
set_option maxRecDepth 100000 in
theorem nil_law (x : Tl) (w : World) :
    Calls Try.prog 8 #[.agg (encT x).toArray] w (SameEnd w true) := by
  have HT := Lib.hid (tell_nil x)
  obtain ⟨w0, hw0⟩ : ∃ w0, w.alloc (.cells (encT x).toArray 31) = w0 := ⟨_, rfl⟩
  have hb0 : Below w.heap.size w w0 := by rw [← hw0]; exact (Below.refl _ _).alloc (Nat.le_refl _) _
  have K0 : Hid (Blk w0 w.heap.size (encT x).toArray 31) := by rw [← hw0]; exact Blk.new _ _ _
  have HB0 := Lib.hid hb0
  clear hb0
  obtain ⟨c, k, d, n, m, p⟩ := x
  dsimp only [encT] at *
  have x0 : w0.cell? ⟨w.heap.size, 0, none⟩ = some (.bool c) := (K0.out).cell 0 rfl
  have x1 : w0.cell? ⟨w.heap.size, 1, none⟩ = some (.int .i64 k) := (K0.out).cell 1 rfl
  have x2 : w0.cell? ⟨w.heap.size, 2, none⟩ = some (.int .i64 d) := (K0.out).cell 2 rfl
  have x3 : w0.cell? ⟨w.heap.size, 3, none⟩ = some (.int .i64 n) := (K0.out).cell 3 rfl
  have x4 : w0.cell? ⟨w.heap.size, 4, none⟩ = some (.int .i64 m) := (K0.out).cell 4 rfl
  have x5 : w0.cell? ⟨w.heap.size, 5, none⟩ = some (.int .i64 p) := (K0.out).cell 5 rfl
  go_enter Try.func8, Try.ntmps8
  go_wp2_with fail
  clear hw0
  with_reducible refine (fixing_nil k d _).mono ?_
  rintro e w1 ⟨rfl, hb1⟩
  have K1 := Lib.hid (K0.out.after hb1)
  have HB1 := Lib.hid (HB0.out.trans (hb1.mono HB0.out.size))
  obtain ⟨w2, hw2⟩ : ∃ W, w1.alloc (.cells #[.int .i64 0, .int .i64 0] 29) = W := ⟨_, rfl⟩
  have hb2 : Below w1.heap.size w1 w2 := by rw [← hw2]; exact (Below.refl _ _).alloc (Nat.le_refl _) _
  have V2 : Hid (Blk w2 w1.heap.size #[.int .i64 0, .int .i64 0] 29) := by rw [← hw2]; exact Blk.new _ _ _
  have K2 := Lib.hid (K1.out.after hb2)
  have HB2 := Lib.hid (HB1.out.trans (hb2.mono HB1.out.size))
  clear x0 x1 x2 x3 x4 x5 hb1 hb2
  have KA := K2.out
  rw [← hw2] at KA
  have x0 : (w1.alloc (.cells #[.int .i64 0, .int .i64 0] 29)).cell? ⟨w.heap.size, 0, none⟩ = some (.bool c) := (KA).cell 0 rfl
  have x1 : (w1.alloc (.cells #[.int .i64 0, .int .i64 0] 29)).cell? ⟨w.heap.size, 1, none⟩ = some (.int .i64 k) := (KA).cell 1 rfl
  have x2 : (w1.alloc (.cells #[.int .i64 0, .int .i64 0] 29)).cell? ⟨w.heap.size, 2, none⟩ = some (.int .i64 d) := (KA).cell 2 rfl
  have x3 : (w1.alloc (.cells #[.int .i64 0, .int .i64 0] 29)).cell? ⟨w.heap.size, 3, none⟩ = some (.int .i64 n) := (KA).cell 3 rfl
  have x4 : (w1.alloc (.cells #[.int .i64 0, .int .i64 0] 29)).cell? ⟨w.heap.size, 4, none⟩ = some (.int .i64 m) := (KA).cell 4 rfl
  have x5 : (w1.alloc (.cells #[.int .i64 0, .int .i64 0] 29)).cell? ⟨w.heap.size, 5, none⟩ = some (.int .i64 p) := (KA).cell 5 rfl
  have HW2 := Lib.hid hw2
  clear hw2 KA
  go_wp2_with fail
  rw [HW2.out]
  clear x0 x1 x2 x3 x4 x5
  have x0 : w2.cell? ⟨w.heap.size, 0, none⟩ = some (.bool c) := (K2.out).cell 0 rfl
  have x1 : w2.cell? ⟨w.heap.size, 1, none⟩ = some (.int .i64 k) := (K2.out).cell 1 rfl
  have x2 : w2.cell? ⟨w.heap.size, 2, none⟩ = some (.int .i64 d) := (K2.out).cell 2 rfl
  have x3 : w2.cell? ⟨w.heap.size, 3, none⟩ = some (.int .i64 n) := (K2.out).cell 3 rfl
  have x4 : w2.cell? ⟨w.heap.size, 4, none⟩ = some (.int .i64 m) := (K2.out).cell 4 rfl
  have x5 : w2.cell? ⟨w.heap.size, 5, none⟩ = some (.int .i64 p) := (K2.out).cell 5 rfl
  with_reducible refine (choice_nil k d _).mono ?_
  rintro e w3 ⟨rfl, rfl⟩
  go_wp2_with fail
  with_reducible refine (first_nil k d d p _).mono ?_
  rintro e w4 ⟨rfl, hb4⟩
  unfold dayV
  have K4 := Lib.hid (K2.out.after hb4)
  have V4 := Lib.hid (V2.out.after hb4)
  have HB4 := Lib.hid (HB2.out.trans (hb4.mono HB2.out.size))
  clear x0 x1 x2 x3 x4 x5 hb4
  have x0 : w4.cell? ⟨w.heap.size, 0, none⟩ = some (.bool c) := (K4.out).cell 0 rfl
  have x1 : w4.cell? ⟨w.heap.size, 1, none⟩ = some (.int .i64 k) := (K4.out).cell 1 rfl
  have x2 : w4.cell? ⟨w.heap.size, 2, none⟩ = some (.int .i64 d) := (K4.out).cell 2 rfl
  have x3 : w4.cell? ⟨w.heap.size, 3, none⟩ = some (.int .i64 n) := (K4.out).cell 3 rfl
  have x4 : w4.cell? ⟨w.heap.size, 4, none⟩ = some (.int .i64 m) := (K4.out).cell 4 rfl
  have x5 : w4.cell? ⟨w.heap.size, 5, none⟩ = some (.int .i64 p) := (K4.out).cell 5 rfl
  dsimp only [Option.getD, Option.isSome]
  go_wp2_with fail
  with_reducible refine (HT.out _).mono ?_
  rintro e w5 ⟨rfl, hb5⟩
  have v0 : w5.cell? ⟨w1.heap.size, 0, none⟩ = some (.int .i64 0) := (V4.out.after hb5).cell 0 rfl
  have v1 : w5.cell? ⟨w1.heap.size, 1, none⟩ = some (.int .i64 0) := (V4.out.after hb5).cell 1 rfl
  have heq := fun w => ratio_eql 0 0 0 0 w
  rw [decide_eq_true ⟨rfl, rfl⟩] at heq
  have HB5 := Lib.hid (HB4.out.trans (hb5.mono HB4.out.size))
  clear hb5
  go_wp2_with fail
  with_reducible refine (seqX_nil _).mono ?_
  rintro e w6 ⟨Bs, rfl, _, hb6, _⟩
  have hnx := neqfX (.func 41) #[] #[.pointer (some ⟨Bs, 0, none⟩)]
  have HB6 := Lib.hid (HB5.out.trans (hb6.mono HB5.out.size))
  clear hb6 heq v0 v1
  go_wp2_with fail
  with_reducible refine (seqH_nil _).mono ?_
  rintro e w7 ⟨Bt, rfl, _, hb7, _⟩
  have hnh := neqfH (.func 46) #[] #[.pointer (some ⟨Bt, 0, none⟩)]
  have HB7 := Lib.hid (HB6.out.trans (hb7.mono HB6.out.size))
  clear hb7
  go_wp2_with fail
  with_reducible refine (listX_any _ [] _ (seqX_nil _) (by simp)).mono ?_
  rintro e w8 ⟨a8, c8, rfl, _, hb8⟩
  have HB8 := Lib.hid (HB7.out.trans (hb8.mono HB7.out.size))
  clear hb8
  dsimp only [List.length_nil]
  go_wp2_with fail
  with_reducible refine (listH_any _ [] _ (seqH_nil _) (by simp)).mono ?_
  rintro e w9 ⟨a9, c9, rfl, _, hb9⟩
  have HB9 := Lib.hid (HB8.out.trans (hb9.mono HB8.out.size))
  clear hb9
  dsimp only [List.length_nil]
  go_wp2_with fail
  with_reducible refine (copy_nil _).mono ?_
  rintro e w10 ⟨rfl, rfl⟩
  go_wp2_with fail
  with_reducible refine (awake_ok _).mono ?_
  rintro e w11 ⟨rfl, hb11⟩
  go_wp2_with fail
  go_ret
  exact ⟨rfl, HB9.out.trans (hb11.mono HB9.out.size)⟩

set_option maxRecDepth 100000 in
open Go.ChangeShapes Go.WideShapes Go.ChangeAt in
theorem walk_FactsNil {H : Type} (enc : TypeId × Value → H) (base : Nat) (W : World) (v : Value) (d : DataW H) (p : List MemPlace) (h : DataW.Trod enc Try.prog W 0 (fun _ => true) true 31 v d p) (ok : Value.okWide Try.prog W .any base 31 v) :
    Calls Try.prog 8 #[v] W fun e w' => e = .returned (.bool true) ∧ Below W.heap.size W w' := by
  obtain ⟨x, rfl, _⟩ := told1_arg h ok
  exact nil_law x W

end Go.Proofs.Ytfimgdjpnlcckaa
