/- Package amount: abs, signed, parts, MulDiv, Neg, Mul. -/
import Derived.Test.YtncodoaphfeefaaDivB
import Derived.Test.YtncodoaphfeefaaRefA
import Derived.Test.YtncodoaphfeefaaRefB
namespace Go.Proofs.Ytncodoaphfeefaa
open Go.RowKit
set_option linter.unusedVariables false
set_option linter.unusedSimpArgs false

set_option maxHeartbeats 1000000 in
theorem amtabs_ok (n : Int) (h1 : -9223372036854775808 ≤ n) (h2 : n ≤ 9223372036854775807) (w : World) : Calls Try.prog 26 #[.int .i64 n] w fun e w' => e = .returned (.int .u64 (n.natAbs : Int)) ∧ w' = w := by
  by_cases h : n < 0
  · have e1 : IntKind.u64.wrap n = n + 18446744073709551616 := by rw [IntKind.wrap_u64]; omega
    have e2 : IntKind.u64.wrap (-(n + 18446744073709551616)) = (n.natAbs : Int) := by rw [IntKind.wrap_u64]; omega
    go_enter Try.func26, Try.ntmps26
    go_wp2_with fail
    go_ret
    exact ⟨rfl, rfl⟩
  · have e1 : IntKind.u64.wrap n = n := IntWalk.u64_in _ (by omega)
    have e2 : Hid (n = (n.natAbs : Int)) := by show n = _; omega
    go_enter Try.func26, Try.ntmps26
    go_wp2_with fail
    go_ret
    exact ⟨by rw [← e2.out]; rfl, rfl⟩

/-- A number, if it fits. -/
def fitV (z : Int) : Int × Int := if fitsI z = true then (z, 0) else (0, 11)
theorem fitV_yes {z : Int} (h : fitsI z = true) : fitV z = (z, 0) := if_pos h
theorem fitV_no {z : Int} (h : fitsI z = false) : fitV z = (0, 11) := if_neg (by rw [h]; simp)
theorem fits_iff {z : Int} : fitsI z = true ↔ -9223372036854775808 ≤ z ∧ z ≤ 9223372036854775807 := by unfold fitsI; rw [decide_eq_true_iff]
def sgnZ (neg : Bool) (n : Nat) : Int := if neg = true then -(n : Int) else (n : Int)

set_option maxHeartbeats 1000000 in
theorem signed_ok (neg : Bool) (n : Nat) (hn : n < 18446744073709551616) (w : World) :
    Calls Try.prog 28 #[.bool neg, .int .u64 (n : Int)] w fun e w' => e = .returned (.tuple #[.int .i64 (fitV (sgnZ neg n)).1, .int .i64 (fitV (sgnZ neg n)).2]) ∧ w' = w := by
  obtain ⟨V, hV⟩ : ∃ V, fitV (sgnZ neg n) = V := ⟨_, rfl⟩
  rw [hV]
  cases neg with
  | true =>
    by_cases h : n ≤ 9223372036854775808
    · obtain rfl : (-(n : Int), 0) = V := by rw [← hV, show sgnZ true n = -(n : Int) from rfl, fitV_yes (fits_iff.2 (by omega))]
      obtain ⟨m, hm⟩ : ∃ m, IntKind.u64.wrap (-(n : Int)) = m := ⟨_, rfl⟩
      have e2 : RowKit.wrap64 m = -(n : Int) := by rw [← hm, IntKind.wrap_u64]; unfold RowKit.wrap64; omega
      have hd : decide ((n : Int) ≤ 9223372036854775808) = true := decide_eq_true (by omega)
      have hd' : decide (n ≤ 9223372036854775808) = true := decide_eq_true h
      have E2 := Lib.hid e2
      clear hV h e2
      go_enter Try.func28, Try.ntmps28
      go_wp2_with fail
      go_ret2
      exact ⟨by show Ending.returned (.tuple #[.int .i64 (RowKit.wrap64 m), .int .i64 0]) = _; rw [E2.out], rfl⟩
    · obtain rfl : (0, 11) = V := by rw [← hV, show sgnZ true n = -(n : Int) from rfl, fitV_no (by unfold fitsI; rw [decide_eq_false_iff_not]; omega)]
      have hd : decide ((n : Int) ≤ 9223372036854775808) = false := decide_eq_false (by omega)
      have hd' : decide (n ≤ 9223372036854775808) = false := decide_eq_false h
      clear hV h
      go_enter Try.func28, Try.ntmps28
      go_wp2_with fail
      go_ret2
      exact ⟨rfl, rfl⟩
  | false =>
    by_cases h : n < 9223372036854775808
    · obtain rfl : ((n : Int), 0) = V := by rw [← hV, show sgnZ false n = (n : Int) from rfl, fitV_yes (fits_iff.2 (by omega))]
      have e2 : RowKit.wrap64 (n : Int) = (n : Int) := by unfold RowKit.wrap64; omega
      have hd : decide ((n : Int) < 9223372036854775808) = true := decide_eq_true (by omega)
      have hd' : decide (n < 9223372036854775808) = true := decide_eq_true h
      have E2 := Lib.hid e2
      clear hV h e2
      go_enter Try.func28, Try.ntmps28
      go_wp2_with fail
      go_ret2
      exact ⟨by show Ending.returned (.tuple #[.int .i64 (RowKit.wrap64 (n : Int)), .int .i64 0]) = _; rw [E2.out], rfl⟩
    · obtain rfl : (0, 11) = V := by rw [← hV, show sgnZ false n = (n : Int) from rfl, fitV_no (by unfold fitsI; rw [decide_eq_false_iff_not]; omega)]
      have hd : decide ((n : Int) < 9223372036854775808) = false := decide_eq_false (by omega)
      have hd' : decide (n < 9223372036854775808) = false := decide_eq_false h
      clear hV h
      go_enter Try.func28, Try.ntmps28
      go_wp2_with fail
      go_ret2
      exact ⟨rfl, rfl⟩

theorem mul_lt64 {a b : Nat} (ha : a < 18446744073709551616) (hb : b < 18446744073709551616) : a * b / 18446744073709551616 < 18446744073709551616 := by
  have := Nat.mul_le_mul (show a ≤ 18446744073709551615 by omega) (show b ≤ 18446744073709551615 by omega)
  omega
set_option maxHeartbeats 1000000 in
theorem parts_yes (a b c : Nat) (ha : a < 18446744073709551616) (hb : b < 18446744073709551616) (hc : c < 18446744073709551616) (h : a * b / 18446744073709551616 < c) (w : World) :
    Calls Try.prog 27 #[.int .u64 (a : Int), .int .u64 (b : Int), .int .u64 (c : Int)] w fun e w' => e = .returned (.tuple #[.int .u64 ((a * b / c : Nat) : Int), .int .u64 ((a * b % c : Nat) : Int), .bool true]) ∧ ∃ n, w' = w.drewN n := by
  have HM := Lib.hid (Try.bits_Mul64 a b ha hb w)
  obtain ⟨hi, hhi⟩ : ∃ x, a * b / 18446744073709551616 = x := ⟨_, rfl⟩
  obtain ⟨lo, hlo⟩ : ∃ x, a * b % 18446744073709551616 = x := ⟨_, rfl⟩
  rw [hhi, hlo] at HM
  rw [hhi] at h
  have HD := Lib.hid (div64_ok hi lo c h hc (by omega) w)
  have e : hi * 18446744073709551616 + lo = a * b := by omega
  rw [e] at HD
  obtain ⟨Q, hQ⟩ : ∃ x, a * b / c = x := ⟨_, rfl⟩
  obtain ⟨R, hR⟩ : ∃ x, a * b % c = x := ⟨_, rfl⟩
  rw [hQ, hR] at HD ⊢
  have hd : decide ((c : Int) ≤ (hi : Int)) = false := decide_eq_false (by omega)
  have hd' : decide (c ≤ hi) = false := decide_eq_false (by omega)
  clear ha hb hc hhi hlo h e hQ hR
  go_enter Try.func27, Try.ntmps27
  go_wp2_with fail
  with_reducible refine HM.out.mono ?_
  rintro e w1 ⟨rfl, rfl⟩
  go_wp2_with fail
  with_reducible refine HD.out.mono ?_
  rintro e w2 ⟨rfl, n, rfl⟩
  go_wp2_with fail
  refine bodyPost_ret (v := .tuple #[.int .u64 (Q : Int), .int .u64 (R : Int), .bool true]) ?_ rfl ?_
  · simp [results, Try.results27, go_sem]
  · exact ⟨rfl, n, rfl⟩
set_option maxHeartbeats 1000000 in
theorem parts_no (a b c : Nat) (ha : a < 18446744073709551616) (hb : b < 18446744073709551616) (hc : c < 18446744073709551616) (h : c ≤ a * b / 18446744073709551616) (w : World) :
    Calls Try.prog 27 #[.int .u64 (a : Int), .int .u64 (b : Int), .int .u64 (c : Int)] w fun e w' => e = .returned (.tuple #[.int .u64 0, .int .u64 0, .bool false]) ∧ w' = w := by
  have HM := Lib.hid (Try.bits_Mul64 a b ha hb w)
  obtain ⟨hi, hhi⟩ : ∃ x, a * b / 18446744073709551616 = x := ⟨_, rfl⟩
  obtain ⟨lo, hlo⟩ : ∃ x, a * b % 18446744073709551616 = x := ⟨_, rfl⟩
  rw [hhi, hlo] at HM
  rw [hhi] at h
  have hd : (c : Int) ≤ (hi : Int) := by omega
  clear ha hb hc hhi hlo h
  go_enter Try.func27, Try.ntmps27
  go_wp2_with fail
  with_reducible refine HM.out.mono ?_
  rintro e w1 ⟨rfl, rfl⟩
  go_wp2_with fail
  refine bodyPost_ret (v := .tuple #[.int .u64 0, .int .u64 0, .bool false]) ?_ rfl ?_
  · simp [results, Try.results27, go_sem]
  · exact ⟨rfl, rfl⟩

end Go.Proofs.Ytncodoaphfeefaa
