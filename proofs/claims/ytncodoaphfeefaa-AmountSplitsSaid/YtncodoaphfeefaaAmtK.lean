/- chattellaw01: fits; AmountRounds: the walk. -/
import Derived.Test.YtncodoaphfeefaaAmtJ
import Derived.Test.YtncodoaphfeefaaRefN
import Derived.Test.YtncodoaphfeefaaRefD
namespace Go.Proofs.Ytncodoaphfeefaa
open Go.RowKit Go.Shelf Go.Lib
set_option linter.unusedVariables false
set_option linter.unusedSimpArgs false

theorem fits_ok (n e z : Int) (s : Bool) (a : Option Addr) (l cap : Nat) (w : World) (h : BigAt w z s a l cap) (hf : fitV z = (n, e)) :
    Calls Try.prog 11 #[.int .i64 n, .int .i64 e, .agg #[.bool s, .slice a l cap]] w fun en w' => en = .returned (.bool true) ∧ Below w.heap.size w w' := by
  have hb : Below w.heap.size w (w.alloc (.cells #[.bool s, .slice a l cap] 29)) := (Below.refl _ _).alloc (Nat.le_refl _) _
  cases hfz : fitsI z with
  | true =>
    rw [fitV_yes hfz] at hf
    cases hf
    have HI := Lib.hid (int_yes _ s a l cap _ (h.after hb) hfz)
    have HB := Lib.hid hb
    clear h hfz hb
    go_enter Try.func11, Try.ntmps11
    go_wp2_with fail
    with_reducible refine HI.out.mono ?_
    rintro e w1 ⟨rfl, b1⟩
    go_wp2_with fail
    go_ret
    exact ⟨by simp, HB.out.trans (b1.mono HB.out.size)⟩
  | false =>
    rw [fitV_no hfz] at hf
    cases hf
    have HI := Lib.hid (int_no _ s a l cap _ (h.after hb) hfz)
    have HB := Lib.hid hb
    clear h hfz hb
    go_enter Try.func11, Try.ntmps11
    go_wp2_with fail
    with_reducible refine HI.out.mono ?_
    rintro e w1 ⟨rfl, b1⟩
    go_wp2_with fail
    go_ret
    exact ⟨by simp, HB.out.trans (b1.mono HB.out.size)⟩

theorem len_int {a : Int} (a1 : -9223372036854775808 ≤ a) (a2 : a ≤ 9223372036854775807) : blen a.natAbs ≤ 64 := by
  refine blen_le.2 ?_
  have : (2 : Nat) ^ 64 = 18446744073709551616 := by decide
  omega
theorem len_mul {a b : Int} (ha : blen a.natAbs ≤ 64) (hb : blen b.natAbs ≤ 64) : blen (a * b).natAbs ≤ 128 := by
  refine blen_le.2 ?_
  rw [Int.natAbs_mul, show 128 = 64 + 64 from rfl, Nat.pow_add]
  exact Nat.mul_lt_mul'' (blen_le.1 ha) (blen_le.1 hb)


set_option maxHeartbeats 4000000 in
set_option maxRecDepth 100000 in
theorem rounds_ok (a b c : Int) (a1 : -9223372036854775808 ≤ a) (a2 : a ≤ 9223372036854775807) (b1 : -9223372036854775808 ≤ b) (b2 : b ≤ 9223372036854775807) (c1 : -9223372036854775808 ≤ c) (c2 : c ≤ 9223372036854775807) (w : World) :
    Calls Try.prog 3 #[.int .i64 a, .int .i64 b, .int .i64 c] w fun e w' => e = .returned (.bool true) ∧ Below w.heap.size w w' := by
  by_cases hc : c = 0
  · subst hc
    have H1 := Lib.hid (md_ok a1 a2 b1 b2 c1 c2 (show muldV a b 0 = (0, 12) from if_pos rfl))
    clear a1 a2 b1 b2 c1 c2
    go_enter Try.func3, Try.ntmps3
    go_wp2_with fail
    with_reducible refine (H1.out _).mono ?_
    rintro e w1 ⟨rfl, d1⟩
    go_wp2_with fail
    with_reducible refine (awake_ok _).mono ?_
    rintro e w9 ⟨rfl, b9⟩
    go_wp2_with fail
    go_ret
    exact ⟨by simp, d1.trans (b9.mono d1.size)⟩
  · have hc' : (c == 0) = false := by simp [hc]
    obtain ⟨⟨n, e0⟩, v1⟩ : ∃ r, muldV a b c = r := ⟨_, rfl⟩
    have H1 := Lib.hid (md_ok a1 a2 b1 b2 c1 c2 v1)
    have v2 : fitV (roundZ (a * b) c) = (n, e0) := by rw [← v1]; unfold muldV; rw [if_neg hc]; rfl
    have HA := Lib.hid (of_big a a1 a2)
    have HB := Lib.hid (of_big b b1 b2)
    have HC := Lib.hid (of_big c c1 c2)
    have la := len_int a1 a2
    have lb := len_int b1 b2
    have lc := len_int c1 c2
    have HL := Lib.hid (show blen a.natAbs ≤ 64 ∧ blen b.natAbs ≤ 64 ∧ blen c.natAbs ≤ 64 ∧ blen (a * b).natAbs ≤ 128 ∧ c ≠ 0 from ⟨la, lb, lc, len_mul la lb, hc⟩)
    have HV := Lib.hid v2
    clear a1 a2 b1 b2 c1 c2 la lb lc v1 v2 hc
    go_enter Try.func3, Try.ntmps3
    go_wp2_with fail
    with_reducible refine (H1.out _).mono ?_
    rintro e w1 ⟨rfl, d1⟩
    go_wp2_with fail
    with_reducible refine (HA.out _).mono ?_
    rintro e w2 ⟨s2, p2, l2, k2, rfl, g2, d2, _⟩
    go_wp2_with fail
    with_reducible refine (HB.out _).mono ?_
    rintro e w3 ⟨s3, p3, l3, k3, rfl, g3, d3, _⟩
    go_wp2_with fail
    with_reducible refine (mul_big a b s2 s3 p2 p3 l2 l3 k2 k3 _ (g2.after d3) g3 (by have := HL.out; omega) (by have := HL.out; omega)).mono ?_
    rintro e w4 ⟨s4, p4, l4, k4, rfl, g4, d4, _⟩
    go_wp2_with fail
    with_reducible refine (HC.out _).mono ?_
    rintro e w5 ⟨s5, p5, l5, k5, rfl, g5, d5, _⟩
    go_wp2_with fail
    with_reducible refine (near_big (a * b) c s4 s5 p4 p5 l4 l5 k4 k5 _ (g4.after d5) g5 (by have := HL.out; omega) (by have := HL.out; omega) HL.out.2.2.2.2).mono ?_
    rintro e w6 ⟨s6, p6, l6, k6, rfl, g6, d6, _⟩
    go_wp2_with fail
    with_reducible refine (fits_ok n e0 (roundZ (a * b) c) s6 p6 l6 k6 _ g6 HV.out).mono ?_
    rintro e w7 ⟨rfl, d7⟩
    have dd := (((((d1.trans (d2.mono d1.size)).trans (d3.mono (Nat.le_trans d1.size d2.size))).trans (d4.mono (Nat.le_trans (Nat.le_trans d1.size d2.size) d3.size))).trans (d5.mono (Nat.le_trans (Nat.le_trans (Nat.le_trans d1.size d2.size) d3.size) d4.size))).trans (d6.mono (by have := d1.size; have := d2.size; have := d3.size; have := d4.size; have := d5.size; omega))).trans (d7.mono (by have := d1.size; have := d2.size; have := d3.size; have := d4.size; have := d5.size; have := d6.size; omega))
    go_wp2_with fail
    with_reducible refine (awake_ok _).mono ?_
    rintro e w9 ⟨rfl, b9⟩
    go_wp2_with fail
    go_ret
    exact ⟨by simp, dd.trans (b9.mono dd.size)⟩

theorem walk_AmountRounds (W : World) (a : Int) (wa : (Lit.int .i64 a).wf = true) (b : Int) (wb : (Lit.int .i64 b).wf = true) (c : Int) (wc : (Lit.int .i64 c).wf = true) :
    Calls Try.prog 3 #[.int .i64 a, .int .i64 b, .int .i64 c] W fun e w' => e = .returned (.bool true) ∧ Below W.heap.size W w' :=
  rounds_ok a b c (wf_int wa).1 (wf_int wa).2 (wf_int wb).1 (wf_int wb).2 (wf_int wc).1 (wf_int wc).2 W

end Go.Proofs.Ytncodoaphfeefaa
