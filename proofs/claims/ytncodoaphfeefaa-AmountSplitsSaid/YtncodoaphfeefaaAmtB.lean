/- Package amount: MulDiv, Mul, Neg. -/
import Derived.Test.YtncodoaphfeefaaAmtA
import Derived.WalkSmall
namespace Go.Proofs.Ytncodoaphfeefaa
open Go.RowKit
set_option linter.unusedVariables false
set_option linter.unusedSimpArgs false

theorem over64 {N : Nat} (h : 18446744073709551616 ≤ N) (b : Bool) : fitV (sgnZ b N) = (0, 11) := by
  refine fitV_no ?_
  unfold fitsI sgnZ
  rw [decide_eq_false_iff_not]
  split <;> omega
theorem round_sgn {a b c : Int} {sa sb sc : Bool} (ha : decide (a < 0) = sa) (hb : decide (b < 0) = sb) (hc : decide (c < 0) = sc) (h0 : c ≠ 0) : roundZ (a * b) c = sgnZ ((sa != sb) != sc) (nearN (a.natAbs * b.natAbs) c.natAbs) := by
  unfold roundZ sgnZ
  rw [Int.natAbs_mul, hc]
  by_cases h : a * b = 0
  · have hz : a.natAbs * b.natAbs = 0 := by rw [← Int.natAbs_mul, h]; rfl
    rw [hz, nearN_zero (by omega)]
    split <;> split <;> rfl
  · have hd : decide (a * b < 0) = (sa != sb) := by
      have ha0 : a ≠ 0 := fun e => h (by rw [e, Int.zero_mul])
      have hb0 : b ≠ 0 := fun e => h (by rw [e, Int.mul_zero])
      rw [← ha, ← hb]
      rcases Int.lt_or_lt_of_ne ha0 with g | g <;> rcases Int.lt_or_lt_of_ne hb0 with k | k
      · have := Int.mul_pos_of_neg_of_neg g k
        rw [decide_eq_true g, decide_eq_true k, decide_eq_false (by omega)]; rfl
      · have := Int.mul_neg_of_neg_of_pos g k
        rw [decide_eq_true g, decide_eq_false (show ¬ b < 0 by omega), decide_eq_true this]; rfl
      · have := Int.mul_neg_of_pos_of_neg g k
        rw [decide_eq_false (show ¬ a < 0 by omega), decide_eq_true k, decide_eq_true this]; rfl
      · have := Int.mul_pos g k
        rw [decide_eq_false (show ¬ a < 0 by omega), decide_eq_false (show ¬ b < 0 by omega), decide_eq_false (by omega)]; rfl
    rw [hd]
    cases sa <;> cases sb <;> cases sc <;> rfl


set_option maxHeartbeats 4000000 in
set_option maxRecDepth 100000 in
theorem muldiv_ok (a b c : Int) (a1 : -9223372036854775808 ≤ a) (a2 : a ≤ 9223372036854775807) (b1 : -9223372036854775808 ≤ b) (b2 : b ≤ 9223372036854775807) (c1 : -9223372036854775808 ≤ c) (c2 : c ≤ 9223372036854775807) (w : World) :
    Calls Try.prog 9 #[.int .i64 a, .int .i64 b, .int .i64 c] w fun e w' => e = .returned (.tuple #[.int .i64 (muldV a b c).1, .int .i64 (muldV a b c).2]) ∧ ∃ n, w' = w.drewN n := by
  obtain ⟨V, hV⟩ : ∃ V, muldV a b c = V := ⟨_, rfl⟩
  rw [hV]
  by_cases h0 : c = 0
  · obtain rfl : (0, 12) = V := by rw [← hV]; exact (if_pos h0).symm
    have hb : (c == 0) = true := by simp [h0]
    clear hV h0
    go_enter Try.func9, Try.ntmps9
    go_wp2_with fail
    go_ret2
    exact ⟨rfl, 0, rfl⟩
  have hc0 : (c == 0) = false := by simp [h0]
  have HA := Lib.hid (amtabs_ok a a1 a2)
  have HB := Lib.hid (amtabs_ok b b1 b2)
  have HC := Lib.hid (amtabs_ok c c1 c2)
  obtain ⟨sa, hsa⟩ : ∃ s, decide (a < 0) = s := ⟨_, rfl⟩
  obtain ⟨sb, hsb⟩ : ∃ s, decide (b < 0) = s := ⟨_, rfl⟩
  obtain ⟨sc, hsc⟩ : ∃ s, decide (c < 0) = s := ⟨_, rfl⟩
  have hV2 : V = fitV (sgnZ ((sa != sb) != sc) (nearN (a.natAbs * b.natAbs) c.natAbs)) := by
    rw [← hV, ← round_sgn hsa hsb hsc h0]
    exact if_neg h0
  obtain ⟨neg, hneg⟩ : ∃ n, ((sa != sb) != sc) = n := ⟨_, rfl⟩
  rw [hneg] at hV2
  replace hneg : (!((!(sa == sb)) == sc)) = neg := hneg
  obtain ⟨x, hx⟩ : ∃ x, a.natAbs = x := ⟨_, rfl⟩
  obtain ⟨y, hy⟩ : ∃ x, b.natAbs = x := ⟨_, rfl⟩
  obtain ⟨n, hn⟩ : ∃ x, c.natAbs = x := ⟨_, rfl⟩
  have hxl : x < 18446744073709551616 := by omega
  have hyl : y < 18446744073709551616 := by omega
  have hnl : n < 18446744073709551616 := by omega
  have hn0 : 0 < n := by omega
  rw [hx] at HA hV2
  rw [hy] at HB hV2
  rw [hn] at HC hV2
  have HSG := Lib.hid (fun m h w => signed_ok neg m h w)
  obtain ⟨N, hN⟩ : ∃ N, nearN (x * y) n = N := ⟨_, rfl⟩
  rw [hN] at hV2
  have HV := Lib.hid hV2
  clear hV hV2 h0 a1 a2 b1 b2 c1 c2 hx hy hn
  by_cases hov : n ≤ x * y / 18446744073709551616
  · have HP := Lib.hid (parts_no x y n hxl hyl hnl hov)
    have HR : Hid (fitV (sgnZ neg N) = (0, 11)) := by
      refine over64 ?_ _
      have h1 : 18446744073709551616 ≤ x * y / n := by
        rw [Nat.le_div_iff_mul_le hn0]
        have := (Nat.le_div_iff_mul_le (show 0 < 18446744073709551616 by decide)).1 hov
        rw [Nat.mul_comm]
        exact this
      rw [← hN]
      unfold nearN
      omega
    clear hov hN
    go_enter Try.func9, Try.ntmps9
    go_wp2_with fail
    with_reducible refine (HC.out _).mono ?_
    rintro e w1 ⟨rfl, rfl⟩
    go_wp2_with fail
    with_reducible refine (HA.out _).mono ?_
    rintro e w1 ⟨rfl, rfl⟩
    go_wp2_with fail
    with_reducible refine (HB.out _).mono ?_
    rintro e w1 ⟨rfl, rfl⟩
    go_wp2_with fail
    with_reducible refine (HP.out _).mono ?_
    rintro e w2 ⟨rfl, rfl⟩
    go_wp2_with fail
    go_ret2
    exact ⟨by rw [show V = _ from HV.out, HR.out]; rfl, 0, rfl⟩
  have hlt : x * y / 18446744073709551616 < n := by omega
  have HP := Lib.hid (parts_yes x y n hxl hyl hnl hlt)
  have hql : x * y / n < 18446744073709551616 := by
    refine Nat.div_lt_of_lt_mul ?_
    have := (Nat.div_lt_iff_lt_mul (show 0 < 18446744073709551616 by decide)).1 hlt
    exact this
  have hrl : x * y % n < n := Nat.mod_lt _ hn0
  have hNN : N = x * y / n + if n < 2 * (x * y % n) ∨ (2 * (x * y % n) = n ∧ x * y / n % 2 = 1) then 1 else 0 := by rw [← hN]; rfl
  obtain ⟨q, hq⟩ : ∃ x_, x * y / n = x_ := ⟨_, rfl⟩
  obtain ⟨r, hr⟩ : ∃ x_, x * y % n = x_ := ⟨_, rfl⟩
  rw [hq, hr] at HP hNN
  rw [hq] at hql
  rw [hr] at hrl
  have HNN := Lib.hid hNN
  obtain ⟨h, hh⟩ : ∃ h, n - r = h := ⟨_, rfl⟩
  have fh : IntKind.u64.wrap ((n : Int) - (r : Int)) = (h : Int) := by rw [wraps _ _ (by omega) hnl, hh]
  obtain ⟨bt, hbt⟩ : ∃ b, q % 2 = b := ⟨_, rfl⟩
  have fb : bits .and .u64 (q : Int) 1 = (bt : Int) := by rw [and_one_u64 _ (by omega) (by omega), ← hbt]; omega
  have HW : Hid (∀ m, (q + 1) % 18446744073709551616 = m → IntKind.u64.wrap ((q : Int) + 1) = (m : Int)) := fun m e => by rw [show (q : Int) + 1 = ((q + 1 : Nat) : Int) by omega, wrap_nat, e]
  have HH : Hid (h + r = n ∧ q % 2 = bt) := ⟨by omega, hbt⟩
  have hbt2 : bt = 0 ∨ bt = 1 := by omega
  clear hov hlt hN hNN hq hr hh hbt
  go_enter Try.func9, Try.ntmps9
  go_wp2_with fail
  with_reducible refine (HC.out _).mono ?_
  rintro e w1 ⟨rfl, rfl⟩
  go_wp2_with fail
  with_reducible refine (HA.out _).mono ?_
  rintro e w1 ⟨rfl, rfl⟩
  go_wp2_with fail
  with_reducible refine (HB.out _).mono ?_
  rintro e w1 ⟨rfl, rfl⟩
  go_wp2_with fail
  with_reducible refine (HP.out _).mono ?_
  rintro e w2 ⟨rfl, dn, rfl⟩
  rcases Nat.lt_trichotomy r h with g | g | g
  · have hN : N = q := by rw [show N = _ from HNN.out, if_neg (by have := HH.out; omega)]; rfl
    have d1 : decide ((h : Int) < (r : Int)) = false := decide_eq_false (by omega)
    have d1' : decide (h < r) = false := decide_eq_false (by omega)
    have d2 : ((r : Int) == (h : Int)) = false := by simp; omega
    have d2' : (r == h) = false := by simp; omega
    clear g
    have HNQ := Lib.hid hN
    clear hN
    go_wp2_with fail
    with_reducible refine (HSG.out (q) (by omega) _).mono ?_
    rintro e w3 ⟨rfl, rfl⟩
    go_wp2_with fail
    go_ret2
    exact ⟨by rw [show V = _ from HV.out]; exact (show _ = Ending.returned (.tuple #[.int .i64 (fitV (sgnZ neg N)).1, .int .i64 (fitV (sgnZ neg N)).2]) by rw [HNQ.out]; rfl), _, rfl⟩
  · have d1 : decide ((h : Int) < (r : Int)) = false := decide_eq_false (by omega)
    have d1' : decide (h < r) = false := decide_eq_false (by omega)
    have d2 : ((r : Int) == (h : Int)) = true := by simp; omega
    have d2' : (r == h) = true := by simp; omega
    rcases hbt2 with rfl | rfl
    · have hN : N = q := by rw [show N = _ from HNN.out, if_neg (by have := HH.out; omega)]; rfl
      clear g
      have HNQ := Lib.hid hN
      clear hN
      go_wp2_with fail
      with_reducible refine (HSG.out (q) (by omega) _).mono ?_
      rintro e w3 ⟨rfl, rfl⟩
      go_wp2_with fail
      go_ret2
      exact ⟨by rw [show V = _ from HV.out]; exact (show _ = Ending.returned (.tuple #[.int .i64 (fitV (sgnZ neg N)).1, .int .i64 (fitV (sgnZ neg N)).2]) by rw [HNQ.out]; rfl), _, rfl⟩
    · have hN : N = q + 1 := by rw [show N = _ from HNN.out, if_pos (by have := HH.out; omega)]
      clear g
      have HNQ := Lib.hid hN
      clear hN
      by_cases hq1 : q = 18446744073709551615
      · have HR : Hid (fitV (sgnZ neg N) = (0, 11)) := over64 (by have := HNQ.out; omega) _
        have fw : IntKind.u64.wrap ((q : Int) + 1) = 0 := HW.out 0 (by rw [hq1])
        clear hq1
        go_wp2_with fail
        go_ret2
        exact ⟨by rw [show V = _ from HV.out, HR.out]; rfl, dn, rfl⟩
      · have fw : IntKind.u64.wrap ((q : Int) + 1) = ((q + 1 : Nat) : Int) := HW.out (q + 1) (Nat.mod_eq_of_lt (by omega))
        obtain ⟨q1, hq2⟩ : ∃ x, q + 1 = x := ⟨_, rfl⟩
        rw [hq2] at fw HNQ
        have hz : ((q1 : Int) == 0) = false := by simp; omega
        have hq1l : q1 < 18446744073709551616 := by omega
        clear hq1 hq2
        go_wp2_with fail
        with_reducible refine (HSG.out (q1) (hq1l) _).mono ?_
        rintro e w3 ⟨rfl, rfl⟩
        go_wp2_with fail
        go_ret2
        exact ⟨by rw [show V = _ from HV.out]; exact (show _ = Ending.returned (.tuple #[.int .i64 (fitV (sgnZ neg N)).1, .int .i64 (fitV (sgnZ neg N)).2]) by rw [HNQ.out]; rfl), _, rfl⟩
  · have hN : N = q + 1 := by rw [show N = _ from HNN.out, if_pos (by have := HH.out; omega)]
    have d1 : (h : Int) < (r : Int) := by omega
    clear g
    have HNQ := Lib.hid hN
    clear hN
    by_cases hq1 : q = 18446744073709551615
    · have HR : Hid (fitV (sgnZ neg N) = (0, 11)) := over64 (by have := HNQ.out; omega) _
      have fw : IntKind.u64.wrap ((q : Int) + 1) = 0 := HW.out 0 (by rw [hq1])
      clear hq1
      go_wp2_with fail
      go_ret2
      exact ⟨by rw [show V = _ from HV.out, HR.out]; rfl, dn, rfl⟩
    · have fw : IntKind.u64.wrap ((q : Int) + 1) = ((q + 1 : Nat) : Int) := HW.out (q + 1) (Nat.mod_eq_of_lt (by omega))
      obtain ⟨q1, hq2⟩ : ∃ x, q + 1 = x := ⟨_, rfl⟩
      rw [hq2] at fw HNQ
      have hz : ((q1 : Int) == 0) = false := by simp; omega
      have hq1l : q1 < 18446744073709551616 := by omega
      clear hq1 hq2
      go_wp2_with fail
      with_reducible refine (HSG.out (q1) (hq1l) _).mono ?_
      rintro e w3 ⟨rfl, rfl⟩
      go_wp2_with fail
      go_ret2
      exact ⟨by rw [show V = _ from HV.out]; exact (show _ = Ending.returned (.tuple #[.int .i64 (fitV (sgnZ neg N)).1, .int .i64 (fitV (sgnZ neg N)).2]) by rw [HNQ.out]; rfl), _, rfl⟩


set_option maxHeartbeats 1000000 in
theorem amtmul_ok (a b : Int) (a1 : -9223372036854775808 ≤ a) (a2 : a ≤ 9223372036854775807) (b1 : -9223372036854775808 ≤ b) (b2 : b ≤ 9223372036854775807) (w : World) :
    Calls Try.prog 23 #[.int .i64 a, .int .i64 b] w fun e w' => e = .returned (.tuple #[.int .i64 (fitV (a * b)).1, .int .i64 (fitV (a * b)).2]) ∧ ∃ n, w' = w.drewN n := by
  have HM := Lib.hid (muldiv_ok a b 1 a1 a2 b1 b2 (by omega) (by omega) w)
  have hv : muldV a b 1 = fitV (a * b) := by
    have h : roundZ (a * b) 1 = a * b := by
      have := roundZ_mul (a := a * b) (b := 1) (by omega)
      rwa [Int.mul_one] at this
    unfold muldV fitV
    rw [if_neg (by omega), h]
  rw [hv] at HM
  obtain ⟨⟨z, er⟩, hV⟩ : ∃ V, fitV (a * b) = V := ⟨_, rfl⟩
  rw [hV] at HM ⊢
  clear hv hV a1 a2 b1 b2
  go_enter Try.func23, Try.ntmps23
  go_wp2_with fail
  with_reducible refine HM.out.mono ?_
  rintro e w1 ⟨rfl, n, rfl⟩
  go_wp2_with fail
  go_ret2
  exact ⟨rfl, n, rfl⟩

set_option maxHeartbeats 1000000 in
theorem amtneg_ok (a : Int) (a1 : -9223372036854775808 ≤ a) (a2 : a ≤ 9223372036854775807) (w : World) :
    Calls Try.prog 21 #[.int .i64 a] w fun e w' => e = .returned (.tuple #[.int .i64 (fitV (-a)).1, .int .i64 (fitV (-a)).2]) ∧ w' = w := by
  have HA := Lib.hid (amtabs_ok a a1 a2)
  obtain ⟨s, hs⟩ : ∃ s, decide (0 ≤ a) = s := ⟨_, rfl⟩
  have hz : sgnZ s a.natAbs = -a := by
    unfold sgnZ
    cases s
    · rw [decide_eq_false_iff_not] at hs
      rw [if_neg (by simp)]; omega
    · rw [decide_eq_true_iff] at hs
      rw [if_pos rfl]; omega
  have HSG := Lib.hid (signed_ok s a.natAbs (by omega))
  rw [hz] at HSG
  obtain ⟨⟨z, er⟩, hV⟩ : ∃ V, fitV (-a) = V := ⟨_, rfl⟩
  rw [hV] at HSG ⊢
  obtain ⟨x, hx⟩ : ∃ x, a.natAbs = x := ⟨_, rfl⟩
  rw [hx] at HA HSG
  clear hV hx hz a1 a2
  go_enter Try.func21, Try.ntmps21
  go_wp2_with fail
  with_reducible refine (HA.out _).mono ?_
  rintro e w1 ⟨rfl, rfl⟩
  go_wp2_with fail
  with_reducible refine (HSG.out _).mono ?_
  rintro e w1 ⟨rfl, rfl⟩
  go_wp2_with fail
  go_ret2
  exact ⟨rfl, rfl⟩

end Go.Proofs.Ytncodoaphfeefaa
