/- The statement AgendaNil: the walk. -/
import Derived.Test.YtgcncnmkfpfccaaAgV
namespace Go.Proofs.Ytgcncnmkfpfccaa
open Go.RowKit Go.Sort Go.Shelf
set_option linter.unusedVariables false
set_option linter.unusedSimpArgs false

theorem neqlfI (fn : Fn) (a b : Array Value) (w : World) : (binOp .neq 57 (.func fn a b) .nilFunc).run Try.prog w = .ok (.bool true) w := by kernel_rfl
set_option maxHeartbeats 8000000 in
set_option maxRecDepth 100000 in
theorem nil_law (a d n : Int) (w : World) : Calls Try.prog 8 #[.agg #[.int .i64 a, .int .i64 d, .int .i64 n]] w (TrueEnd w) := by
  obtain ⟨w0, hw0⟩ : ∃ W, w.alloc (.cells #[.int .i64 a, .int .i64 d, .int .i64 n] 36) = W := ⟨_, rfl⟩
  have hb0 : Below w.heap.size w w0 := by rw [← hw0]; exact (Below.refl _ _).alloc (Nat.le_refl _) _
  have KO0 : Blk w0 w.heap.size #[.int .i64 a, .int .i64 d, .int .i64 n] 36 := by rw [← hw0]; exact Blk.new _ _ _
  have o0 : w0.cell? ⟨w.heap.size, 0, none⟩ = some (.int .i64 a) := KO0.cell 0 rfl
  have o1 : w0.cell? ⟨w.heap.size, 1, none⟩ = some (.int .i64 d) := KO0.cell 1 rfl
  have o2 : w0.cell? ⟨w.heap.size, 2, none⟩ = some (.int .i64 n) := KO0.cell 2 rfl
  rw [← hw0] at o0 o1 o2
  have HW0 := Lib.hid hw0
  have HB0 := Lib.hid hb0
  have HO0 := Lib.hid KO0
  clear hw0 hb0 KO0
  go_enter Try.func8, Try.ntmps8
  go_wp2_with fail
  rw [HW0.out]
  with_reducible refine (does_nil a d n w0).mono ?_
  rintro e w1 ⟨rfl, hb1⟩
  obtain ⟨ev, hev⟩ : ∃ ev, nilE a = ev := ⟨_, rfl⟩
  rw [hev]
  unfold NilV
  obtain ⟨w2, hw2⟩ : ∃ W, w1.alloc (.cells #[.int .i64 0, .int .i64 0, .int .i64 0] 31) = W := ⟨_, rfl⟩
  have hb2 : Below w1.heap.size w1 w2 := by rw [← hw2]; exact (Below.refl _ _).alloc (Nat.le_refl _) _
  have KX2 : Blk w2 w1.heap.size #[.int .i64 0, .int .i64 0, .int .i64 0] 31 := by rw [← hw2]; exact Blk.new _ _ _
  have HW2 := Lib.hid hw2
  have HX2 := Lib.hid KX2
  have HB2 := Lib.hid ((HB0.out.trans (hb1.mono HB0.out.size)).trans (hb2.mono (Nat.le_trans HB0.out.size hb1.size)))
  have HO2 := Lib.hid ((HO0.out.after hb1).after hb2)
  have HE := Lib.hid hev
  clear o0 o1 o2 hw2 hb1 hb2 KX2 hev
  go_wp2_with fail
  rw [HW2.out]
  with_reducible refine (next_nil w2).mono ?_
  rintro e w3 ⟨rfl, hb3⟩
  obtain ⟨w4, hw4⟩ : ∃ W, w3.alloc (.cells #[.int .i64 0, .int .i64 0, .int .i64 0] 31) = W := ⟨_, rfl⟩
  have hb4 : Below w3.heap.size w3 w4 := by rw [← hw4]; exact (Below.refl _ _).alloc (Nat.le_refl _) _
  have KN4 : Hid (Blk w4 w3.heap.size #[.int .i64 0, .int .i64 0, .int .i64 0] 31) := by rw [← hw4]; exact Blk.new _ _ _
  have HW4 := Lib.hid hw4
  have KX4 := Lib.hid ((HX2.out.after hb3).after hb4)
  have KO4 := Lib.hid ((HO2.out.after hb3).after hb4)
  have HB4 := Lib.hid ((HB2.out.trans (hb3.mono HB2.out.size)).trans (hb4.mono (Nat.le_trans HB2.out.size hb3.size)))
  clear hw4 hb3 hb4
  by_cases ha : a = 1
  · subst ha
    clear HE
    have hx0 : w4.cell? ⟨w1.heap.size, 0, none⟩ = some (.int .i64 0) := (KX4.out).cell 0 rfl
    have hx1 : w4.cell? ⟨w1.heap.size, 1, none⟩ = some (.int .i64 0) := (KX4.out).cell 1 rfl
    have hx2 : w4.cell? ⟨w1.heap.size, 2, none⟩ = some (.int .i64 0) := (KX4.out).cell 2 rfl
    have hn0 : w4.cell? ⟨w3.heap.size, 0, none⟩ = some (.int .i64 0) := (KN4.out).cell 0 rfl
    have hn1 : w4.cell? ⟨w3.heap.size, 1, none⟩ = some (.int .i64 0) := (KN4.out).cell 1 rfl
    have hn2 : w4.cell? ⟨w3.heap.size, 2, none⟩ = some (.int .i64 0) := (KN4.out).cell 2 rfl
    have ho0 : w4.cell? ⟨w.heap.size, 0, none⟩ = some (.int .i64 1) := (KO4.out).cell 0 rfl
    have heq := fun w => item_eql 0 0 0 0 0 0 w
    rw [decide_eq_true rfl] at heq
    rw [← HW4.out] at hx0 hx1 hx2 hn0 hn1 hn2 ho0
    go_wp2_with fail
    rw [HW4.out]
    clear hx0 hx1 hx2 hn0 hn1 hn2 ho0
    with_reducible refine (len_nil w4).mono ?_
    rintro e w5 ⟨rfl, hw⟩
    obtain rfl : w4 = w5 := hw.symm
    clear hw
    go_wp2_with fail
    with_reducible refine (all_nil w4).mono ?_
    rintro e w5 ⟨Bs, rfl, hS, hb5, _⟩
    have hne := neqlfI (.func 40) #[] #[.pointer (some ⟨Bs, 0, none⟩)]
    have HB5 := Lib.hid (HB4.out.trans (hb5.mono HB4.out.size))
    clear hS hb5
    go_wp2_with fail
    clear hne
    with_reducible refine (items_nil w5).mono ?_
    rintro e w6 ⟨ia, icap, rfl, _, hb6, _⟩
    rw [List.length_nil]
    have HB6 := Lib.hid (HB5.out.trans (hb6.mono HB5.out.size))
    clear hb6
    go_wp2_with fail
    with_reducible refine (copy_nil w6).mono ?_
    rintro e w7 ⟨rfl, hw⟩
    obtain rfl : w6 = w7 := hw.symm
    clear hw
    go_wp2_with fail
    with_reducible refine (awake_ok11 _).mono ?_
    rintro e w9 ⟨rfl, hb9⟩
    go_wp2_with fail
    go_ret
    exact ⟨rfl, HB6.out.trans (hb9.mono HB6.out.size)⟩
  · have a1 : (a == 1) = false := by rw [beq_eq_false_iff_ne]; exact ha
    obtain rfl : ev = 2 := by rw [← HE.out]; exact if_neg ha
    clear HE ha
    have hx0 : w4.cell? ⟨w1.heap.size, 0, none⟩ = some (.int .i64 0) := (KX4.out).cell 0 rfl
    have hx1 : w4.cell? ⟨w1.heap.size, 1, none⟩ = some (.int .i64 0) := (KX4.out).cell 1 rfl
    have hx2 : w4.cell? ⟨w1.heap.size, 2, none⟩ = some (.int .i64 0) := (KX4.out).cell 2 rfl
    have hn0 : w4.cell? ⟨w3.heap.size, 0, none⟩ = some (.int .i64 0) := (KN4.out).cell 0 rfl
    have hn1 : w4.cell? ⟨w3.heap.size, 1, none⟩ = some (.int .i64 0) := (KN4.out).cell 1 rfl
    have hn2 : w4.cell? ⟨w3.heap.size, 2, none⟩ = some (.int .i64 0) := (KN4.out).cell 2 rfl
    have ho0 : w4.cell? ⟨w.heap.size, 0, none⟩ = some (.int .i64 a) := (KO4.out).cell 0 rfl
    have heq := fun w => item_eql 0 0 0 0 0 0 w
    rw [decide_eq_true rfl] at heq
    rw [← HW4.out] at hx0 hx1 hx2 hn0 hn1 hn2 ho0
    go_wp2_with fail
    rw [HW4.out]
    clear hx0 hx1 hx2 hn0 hn1 hn2 ho0
    with_reducible refine (len_nil w4).mono ?_
    rintro e w5 ⟨rfl, hw⟩
    obtain rfl : w4 = w5 := hw.symm
    clear hw
    go_wp2_with fail
    with_reducible refine (all_nil w4).mono ?_
    rintro e w5 ⟨Bs, rfl, hS, hb5, _⟩
    have hne := neqlfI (.func 40) #[] #[.pointer (some ⟨Bs, 0, none⟩)]
    have HB5 := Lib.hid (HB4.out.trans (hb5.mono HB4.out.size))
    clear hS hb5
    go_wp2_with fail
    clear hne
    with_reducible refine (items_nil w5).mono ?_
    rintro e w6 ⟨ia, icap, rfl, _, hb6, _⟩
    rw [List.length_nil]
    have HB6 := Lib.hid (HB5.out.trans (hb6.mono HB5.out.size))
    clear hb6
    go_wp2_with fail
    with_reducible refine (copy_nil w6).mono ?_
    rintro e w7 ⟨rfl, hw⟩
    obtain rfl : w6 = w7 := hw.symm
    clear hw
    go_wp2_with fail
    with_reducible refine (awake_ok11 _).mono ?_
    rintro e w9 ⟨rfl, hb9⟩
    go_wp2_with fail
    go_ret
    exact ⟨rfl, HB6.out.trans (hb9.mono HB6.out.size)⟩

set_option maxRecDepth 100000 in
open Go.ChangeShapes Go.WideShapes Go.ChangeAt in
theorem walk_AgendaNil {H : Type} (enc : TypeId × Value → H) (base : Nat) (W : World) (v : Value) (d : DataW H) (p : List MemPlace) (h : DataW.Trod enc Try.prog W 0 (fun _ => true) true 36 v d p) (ok : Value.okWide Try.prog W .any base 36 v) :
    Calls Try.prog 8 #[v] W fun e w' => e = .returned (.bool true) ∧ Below W.heap.size W w' := by
  obtain ⟨x, rfl, _⟩ := opq_arg h ok
  exact nil_law x.a x.d x.n W

end Go.Proofs.Ytgcncnmkfpfccaa
