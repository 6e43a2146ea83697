/- math/bits.Div64: the walk. -/
import Derived.Test.YtncodoaphfeefaaDivA
import Derived.Test.YtncodoaphfeefaaAmtShelf
import Derived.Test.YtncodoaphfeefaaInts
import Derived.LoopTactic
import Derived.BigGuardPart
import Derived.Deep.QuietTactic
import Derived.BigQuiet
import Derived.Outline
import Derived.WalkSpells
import Derived.PlainAid
import Derived.Lib.Hide
import Derived.Lib.ItoaNum
import Derived.Laws.MathBits
import Derived.Laws.Bits64b
namespace Go.Proofs.Ytncodoaphfeefaa
open Go.RowKit
set_option linter.unusedVariables false
set_option linter.unusedSimpArgs false
theorem wrapm (a b : Nat) (h : a * b < 18446744073709551616) : IntKind.u64.wrap ((a : Int) * (b : Int)) = ((a * b : Nat) : Int) := by
  rw [← Int.natCast_mul, wrap_nat, Nat.mod_eq_of_lt h]
theorem wrapa (a b : Nat) (h : a + b < 18446744073709551616) : IntKind.u64.wrap ((a : Int) + (b : Int)) = ((a + b : Nat) : Int) := by
  rw [← Int.natCast_add, wrap_nat, Nat.mod_eq_of_lt h]
theorem wraps (a b : Nat) (h : b ≤ a) (ha : a < 18446744073709551616) : IntKind.u64.wrap ((a : Int) - (b : Int)) = ((a - b : Nat) : Int) := by
  rw [← Int.natCast_sub h, wrap_nat, Nat.mod_eq_of_lt (by omega)]



set_option maxHeartbeats 8000000 in
set_option maxRecDepth 100000 in
theorem div64_ok (hi lo y : Nat) (h1 : hi < y) (h2 : y < 18446744073709551616) (h3 : lo < 18446744073709551616) (w : World) :
    Calls Try.prog 42 #[.int .u64 (hi : Int), .int .u64 (lo : Int), .int .u64 (y : Int)] w fun e w' => e = .returned (.tuple #[.int .u64 (((hi * 18446744073709551616 + lo) / y : Nat) : Int), .int .u64 (((hi * 18446744073709551616 + lo) % y : Nat) : Int)]) ∧ ∃ n, w' = w.drewN n := by
  by_cases h0 : hi = 0
  · subst h0
    have hy0 : ((y : Int) == 0) = false := by simp; omega
    have hy1 : (y : Int) ≠ 0 := by omega
    have e1 : IntKind.u64.wrap ((lo : Int) / (y : Int)) = ((lo / y : Nat) : Int) := by
      rw [← Int.natCast_ediv, wrap_nat, Nat.mod_eq_of_lt (by have := Nat.div_le_self lo y; omega)]
    have hz : ((0 : Nat) : Int) = 0 := rfl
    have HF : Hid ((0 * 18446744073709551616 + lo) / y = lo / y ∧ (0 * 18446744073709551616 + lo) % y = lo % y) := by show _ ∧ _; rw [Nat.zero_mul, Nat.zero_add]; exact ⟨rfl, rfl⟩
    obtain ⟨Q, hQ⟩ : ∃ Q, (0 * 18446744073709551616 + lo) / y = Q := ⟨_, rfl⟩
    obtain ⟨R, hR⟩ : ∃ R, (0 * 18446744073709551616 + lo) % y = R := ⟨_, rfl⟩
    rw [hQ, hR] at HF ⊢
    clear hQ hR
    go_enter Try.func42, Try.ntmps42
    go_wp2_with (go_quiet (fail))
    all_goals first
      | (exfalso; omega)
      | (go_ret2
         obtain ⟨f1, f2⟩ := HF.out
         exact ⟨by rw [f1, f2]; simp, _, rfl⟩)
  · have hy0 : ((y : Int) == 0) = false := by simp; omega
    have hh0 : ((hi : Int) == 0) = false := by simp; omega
    have hyh : decide ((y : Int) ≤ (hi : Int)) = false := by simp; omega
    have HL := Lib.hid (Try.bits_LeadingZeros64 (y : Int) w (by omega) (by omega))
    rw [Int.toNat_natCast] at HL
    obtain ⟨b1, b2, b3⟩ := Lib.bitLenAux_bounds 64 y (by omega) (by omega)
    rw [show Lib.bitLenAux 64 y = Lib.bitLen y from rfl] at b1 b2 b3
    obtain ⟨B, hB⟩ : ∃ B, Lib.bitLen y = B := ⟨_, rfl⟩
    rw [hB] at HL b1 b2 b3
    have hB64 : B ≤ 64 := by
      rcases Nat.lt_or_ge 64 B with h | h
      · have : (2 : Nat) ^ 64 ≤ 2 ^ (B - 1) := Nat.pow_le_pow_right (by omega) (by omega)
        omega
      · exact h
    obtain ⟨S, hS⟩ : ∃ S, 64 - B = S := ⟨_, rfl⟩
    rw [show (64 : Int) - (B : Int) = (S : Int) by omega] at HL
    have hBS : B + S = 64 := by omega
    have hp : (2 : Nat) ^ B * 2 ^ S = 18446744073709551616 := by rw [← Nat.pow_add, hBS]
    have hp' : (2 : Nat) ^ (B - 1) * 2 ^ S = 9223372036854775808 := by rw [← Nat.pow_add, show B - 1 + S = 63 by omega]
    have hYlt : y * 2 ^ S < 18446744073709551616 := by rw [← hp]; exact Nat.mul_lt_mul_of_pos_right b3 (pow_pos2 S)
    have hYge : 9223372036854775808 ≤ y * 2 ^ S := by rw [← hp']; exact Nat.mul_le_mul_right _ b2
    obtain ⟨n1, n2, n3, n4, n5⟩ := div_norm (S := S) (T := B) (by omega) h1 h3 hYlt
    have HN1 := Lib.hid n1
    have HN2 := Lib.hid n2
    have HN3 := Lib.hid n3
    have HSP := Lib.hid (pow_pos2 S)
    have ho := or_low (a := hi) n4
    obtain ⟨N, hN⟩ : ∃ N, hi * 18446744073709551616 + lo = N := ⟨_, rfl⟩
    rw [hN] at HN1 HN2 HN3 ⊢
    obtain ⟨M, hM⟩ : ∃ M, N * 2 ^ S = M := ⟨_, rfl⟩
    rw [hM] at HN1 HN2 HN3
    have HM := Lib.hid hM
    obtain ⟨Y, hY⟩ : ∃ Y, y * 2 ^ S = Y := ⟨_, rfl⟩
    rw [hY] at hYlt hYge HN3
    have HY := Lib.hid hY
    obtain ⟨y1, hy1⟩ : ∃ y1, Y / 4294967296 = y1 := ⟨_, rfl⟩
    obtain ⟨y2, hy2⟩ : ∃ y1, Y % 4294967296 = y1 := ⟨_, rfl⟩
    obtain ⟨A, hA⟩ : ∃ A, hi * 2 ^ S = A := ⟨_, rfl⟩
    obtain ⟨l1, hl1⟩ : ∃ l1, lo / 2 ^ B = l1 := ⟨_, rfl⟩
    obtain ⟨v, hv⟩ : ∃ v, lo * 2 ^ S % 18446744073709551616 = v := ⟨_, rfl⟩
    obtain ⟨v1, hv1⟩ : ∃ y1, v / 4294967296 = y1 := ⟨_, rfl⟩
    obtain ⟨v2, hv2⟩ : ∃ y1, v % 4294967296 = y1 := ⟨_, rfl⟩
    obtain ⟨u, hu⟩ : ∃ u, A + l1 = u := ⟨_, rfl⟩
    rw [hA, hl1] at HN1 ho
    rw [hv] at HN2
    rw [hA] at n5
    rw [hl1] at n4
    have cast2 : ((2 ^ S : Nat) : Int) = (2 : Int) ^ S := by simp
    have castB : ((2 ^ B : Nat) : Int) = (2 : Int) ^ B := by simp
    have fS : IntKind.u64.wrap (S : Int) = (S : Int) := IntWalk.u64_in _ (by omega)
    have fm : min S 64 = S := by omega
    have fT : IntKind.u64.wrap (64 - (S : Int)) = (B : Int) := by rw [show 64 - (S : Int) = (B : Int) by omega]; exact IntWalk.u64_in _ (by omega)
    have fTm : min B 64 = B := by omega
    have fY : IntKind.u64.wrap ((y : Int) * 2 ^ S) = (Y : Int) := by rw [← cast2, wrapm _ _ (by rw [hY]; exact hYlt), hY]
    have fy1 : (Y : Int) / 4294967296 = (y1 : Int) := by omega
    have fy2 : bits .and .u64 (Y : Int) 4294967295 = (y2 : Int) := by rw [and_low32 _ (by omega) (by omega)]; omega
    have fA : IntKind.u64.wrap ((hi : Int) * 2 ^ S) = (A : Int) := by rw [← cast2, wrapm _ _ (by rw [hA]; exact n5), hA]
    have fl : (lo : Int) / 2 ^ B = (l1 : Int) := by rw [← castB, ← Int.natCast_ediv, hl1]
    have hll : l1 < 18446744073709551616 := by have := Nat.div_le_self lo (2 ^ B); omega
    have fo : bits .or .u64 (A : Int) (l1 : Int) = (u : Int) := by rw [bits_or_u64_nat _ _ n5 hll, ← hu, ← ho, ← hA]
    have fv : IntKind.u64.wrap ((lo : Int) * 2 ^ S) = (v : Int) := by rw [← cast2, ← Int.natCast_mul, wrap_nat, hv]
    have fv1 : (v : Int) / 4294967296 = (v1 : Int) := by omega
    have fv2 : bits .and .u64 (v : Int) 4294967295 = (v2 : Int) := by rw [and_low32 _ (by omega) (by omega)]; omega
    have huY : u < Y := by
      have h := HN3.out
      have h' := HN1.out
      omega
    have HYE : Hid (Y = y1 * 4294967296 + y2) := by show _ = _; omega
    have hy2l : y2 < 4294967296 := by omega
    have hv1l : v1 < 4294967296 := by omega
    have hv2l : v2 < 4294967296 := by omega
    have hy1l : 2147483648 ≤ y1 := by omega
    have hy1u : y1 < 4294967296 := by omega
    have hy1z : (y1 : Int) ≠ 0 := by omega
    have hy1b : ((y1 : Int) == 0) = false := by simp; omega
    have HN := Lib.hid hN
    have HU : Hid (M / 18446744073709551616 = u) := by show _ = _; rw [HN1.out, hu]
    have HV1 : Hid (M / 4294967296 % 4294967296 = v1) := by show _ = _; have := HN2.out; omega
    have HV2 : Hid (M % 4294967296 = v2) := by show _ = _; have := HN2.out; omega
    have HS64 : Hid (S ≤ 64) := by show _ ≤ _; omega
    clear n1 n2 n3 n4 n5 ho hN hM hY hy1 hy2 hA hl1 hv hv1 hv2 hu cast2 castB hll hB hS hBS hp hp' b1 b2 b3 hB64 HN1
    obtain ⟨q, hq⟩ : ∃ q, u / y1 = q := ⟨_, rfl⟩
    obtain ⟨r, hr⟩ : ∃ r, u % y1 = r := ⟨_, rfl⟩
    obtain ⟨p, hp⟩ : ∃ p, q * y1 = p := ⟨_, rfl⟩
    have hdm := Nat.div_add_mod u y1
    rw [hq, hr, Nat.mul_comm, hp] at hdm
    have gq : IntKind.u64.wrap ((u : Int) / (y1 : Int)) = (q : Int) := by rw [← Int.natCast_ediv, hq, wrap_nat, Nat.mod_eq_of_lt (by have := Nat.div_le_self u y1; omega)]
    have gp : IntKind.u64.wrap ((q : Int) * (y1 : Int)) = (p : Int) := by rw [← hp]; exact wrapm _ _ (by rw [hp]; omega)
    have gr : IntKind.u64.wrap ((u : Int) - (p : Int)) = (r : Int) := by rw [wraps _ _ (by omega) (by omega)]; congr 1; omega
    have Hq : Hid (q * y1 + r = u ∧ dgQ u v1 Y ≤ q ∧ r < 4294967296) := by
      refine ⟨by omega, ?_, by have := Nat.mod_lt u (show 0 < y1 by omega); omega⟩
      have h := dg_start (u := u) (v := v1) HYE.out (by omega) (by omega)
      rw [hq] at h
      exact h
    have HLq : Hid (q ≤ 17179869184) := by
      show _ ≤ _
      rcases Nat.lt_or_ge 17179869184 q with h | h
      · have := Nat.mul_le_mul (show 17179869185 ≤ q from h) hy1l
        omega
      · exact h
    clear hq hr hp hdm
    go_enter Try.func42, Try.ntmps42
    go_wp2_with fail
    with_reducible refine HL.out.mono ?_
    rintro e w1 ⟨rfl, rfl⟩
    clear HL
    go_wp2_with fail
    clear fS fm fT fTm fY fy1 fy2 fA fl fo fv fv1 fv2 gq gp gr
    go_loop [15, 16] (fun a b => ∃ q r : Nat, a = .int .u64 (q : Int) ∧ b = .int .u64 (r : Int) ∧ Hid (q * y1 + r = u ∧ dgQ u v1 Y ≤ q ∧ r < 4294967296 ∧ q ≤ 17179869184)) (fun _ b => 4294967296 - (intOf b).toNat)
    case atStart => exact ⟨q, r, rfl, rfl, ⟨Hq.out.1, Hq.out.2.1, Hq.out.2.2, HLq.out⟩⟩
    case round =>
      obtain ⟨q, r, rfl, rfl, HQ⟩ := hrel
      have hr := HQ.out.2.2.1
      have hq := HQ.out.2.2.2
      by_cases hqb : 4294967296 ≤ q
      · have hqi : (4294967296 : Int) ≤ (q : Int) := by omega
        have hqd : decide ((4294967296 : Int) ≤ (q : Int)) = true := by simp; omega
        have HGR := Lib.hid (dg_great HYE.out HQ.out.1 huY (by omega) (Or.inl hqb) : dgQ u v1 Y < q)
        have d1 : IntKind.u64.wrap ((q : Int) - 1) = ((q - 1 : Nat) : Int) := by have := HGR.out; rw [show (q : Int) - 1 = ((q - 1 : Nat) : Int) by omega, wrap_nat, Nat.mod_eq_of_lt (by omega)]
        have d2 : IntKind.u64.wrap ((r : Int) + (y1 : Int)) = ((r + y1 : Nat) : Int) := wrapa _ _ (by omega)
        have HE : Hid ((q - 1) * y1 + (r + y1) = u ∧ dgQ u v1 Y ≤ q - 1 ∧ q - 1 ≤ 17179869184) := by
          have h := HGR.out
          refine ⟨?_, by omega, by omega⟩
          have h1 := HQ.out.1
          rw [← h1, Nat.sub_mul, Nat.one_mul]
          have : y1 ≤ q * y1 := Nat.le_mul_of_pos_left _ (by omega)
          omega
        obtain ⟨qn, hqn⟩ : ∃ x, q - 1 = x := ⟨_, rfl⟩
        obtain ⟨rn, hrn⟩ : ∃ x, r + y1 = x := ⟨_, rfl⟩
        have HRN : Hid (r < rn) := by show _ < _; omega
        rw [hqn] at d1 HE
        rw [hrn] at d2 HE
        clear hqn hrn
        by_cases hb : 4294967296 ≤ rn
        · have hbi : (4294967296 : Int) ≤ (rn : Int) := by omega
          have HEX := Lib.hid (dg_right HYE.out (by omega) HE.out.1 HE.out.2.1 (dg_rest HYE.out (by omega) (by omega) HE.out.1 (by assumption) hb) : dgQ u v1 Y = qn)
          clear hb
          obtain ⟨Q1, hQ1⟩ : ∃ Q1, Q1 = qn := ⟨_, rfl⟩
          subst hQ1
          have HEX1 := Lib.hid HEX.out
          obtain ⟨m1, hm1⟩ : ∃ x, u * 4294967296 % 18446744073709551616 = x := ⟨_, rfl⟩
          obtain ⟨m2, hm2⟩ : ∃ x, (m1 + v1) % 18446744073709551616 = x := ⟨_, rfl⟩
          obtain ⟨P, hP⟩ : ∃ x, Q1 * Y = x := ⟨_, rfl⟩
          obtain ⟨m3, hm3⟩ : ∃ x, P % 18446744073709551616 = x := ⟨_, rfl⟩
          obtain ⟨u2, hu2⟩ : ∃ x, dgR u v1 Y = x := ⟨_, rfl⟩
          have hu2l : u2 < Y := by rw [← hu2]; exact Nat.mod_lt _ (by omega)
          have hdm : u * 4294967296 + v1 = P + u2 := by
            have h := Nat.div_add_mod (u * 4294967296 + v1) Y
            rw [show (u * 4294967296 + v1) / Y = Q1 from HEX.out, show (u * 4294967296 + v1) % Y = u2 from hu2, Nat.mul_comm, hP] at h
            exact h.symm
          have f1 : IntKind.u64.wrap ((u : Int) * 4294967296) = (m1 : Int) := by rw [show (u : Int) * 4294967296 = ((u * 4294967296 : Nat) : Int) by simp, wrap_nat, hm1]
          have f2 : IntKind.u64.wrap ((m1 : Int) + (v1 : Int)) = (m2 : Int) := by rw [← Int.natCast_add, wrap_nat, hm2]
          have f3 : IntKind.u64.wrap ((Q1 : Int) * (Y : Int)) = (m3 : Int) := by rw [← Int.natCast_mul, wrap_nat, hP, hm3]
          have f4 : IntKind.u64.wrap ((m2 : Int) - (m3 : Int)) = (u2 : Int) := wrap_diff hm1.symm hm2.symm hm3.symm hdm (by omega)
          have Hu2 : Hid (dgR u v1 Y = u2) := hu2
          clear hm1 hm2 hm3 hP hu2 hdm
          obtain ⟨q2, hq2⟩ : ∃ q, u2 / y1 = q := ⟨_, rfl⟩
          obtain ⟨r2, hr2⟩ : ∃ r, u2 % y1 = r := ⟨_, rfl⟩
          obtain ⟨p2, hp2⟩ : ∃ p, q2 * y1 = p := ⟨_, rfl⟩
          have hdm := Nat.div_add_mod u2 y1
          rw [hq2, hr2, Nat.mul_comm, hp2] at hdm
          have kq : IntKind.u64.wrap ((u2 : Int) / (y1 : Int)) = (q2 : Int) := by rw [← Int.natCast_ediv, hq2, wrap_nat, Nat.mod_eq_of_lt (by have := Nat.div_le_self u2 y1; omega)]
          have kp : IntKind.u64.wrap ((q2 : Int) * (y1 : Int)) = (p2 : Int) := by rw [← hp2]; exact wrapm _ _ (by rw [hp2]; omega)
          have kr : IntKind.u64.wrap ((u2 : Int) - (p2 : Int)) = (r2 : Int) := by rw [wraps _ _ (by omega) (by omega)]; congr 1; omega
          have Hq2 : Hid (q2 * y1 + r2 = u2 ∧ dgQ u2 v2 Y ≤ q2 ∧ r2 < 4294967296) := by
            refine ⟨by omega, ?_, by have := Nat.mod_lt u2 (show 0 < y1 by omega); omega⟩
            have h := dg_start (u := u2) (v := v2) HYE.out (by omega) (by omega)
            rw [hq2] at h
            exact h
          have HLq2 : Hid (q2 ≤ 17179869184) := by
            show _ ≤ _
            rcases Nat.lt_or_ge 17179869184 q2 with h | h
            · have := Nat.mul_le_mul (show 17179869185 ≤ q2 from h) hy1l
              omega
            · exact h
          clear hq2 hr2 hp2 hdm
          go_wp2_with fail
          clear f1 f2 f3 f4 kq kp kr
          go_loop [18, 16] (fun a b => ∃ q r : Nat, a = .int .u64 (q : Int) ∧ b = .int .u64 (r : Int) ∧ Hid (q * y1 + r = u2 ∧ dgQ u2 v2 Y ≤ q ∧ r < 4294967296 ∧ q ≤ 17179869184)) (fun _ b => 4294967296 - (intOf b).toNat)
          case atStart => exact ⟨q2, r2, rfl, rfl, ⟨Hq2.out.1, Hq2.out.2.1, Hq2.out.2.2, HLq2.out⟩⟩
          case round =>
            obtain ⟨q, r, rfl, rfl, HQ⟩ := hrel
            have hr := HQ.out.2.2.1
            have hq := HQ.out.2.2.2
            by_cases hqb : 4294967296 ≤ q
            · have hqi : (4294967296 : Int) ≤ (q : Int) := by omega
              have hqd : decide ((4294967296 : Int) ≤ (q : Int)) = true := by simp; omega
              have HGR := Lib.hid (dg_great HYE.out HQ.out.1 hu2l (by omega) (Or.inl hqb) : dgQ u2 v2 Y < q)
              have d1 : IntKind.u64.wrap ((q : Int) - 1) = ((q - 1 : Nat) : Int) := by have := HGR.out; rw [show (q : Int) - 1 = ((q - 1 : Nat) : Int) by omega, wrap_nat, Nat.mod_eq_of_lt (by omega)]
              have d2 : IntKind.u64.wrap ((r : Int) + (y1 : Int)) = ((r + y1 : Nat) : Int) := wrapa _ _ (by omega)
              have HE : Hid ((q - 1) * y1 + (r + y1) = u2 ∧ dgQ u2 v2 Y ≤ q - 1 ∧ q - 1 ≤ 17179869184) := by
                have h := HGR.out
                refine ⟨?_, by omega, by omega⟩
                have h1 := HQ.out.1
                rw [← h1, Nat.sub_mul, Nat.one_mul]
                have : y1 ≤ q * y1 := Nat.le_mul_of_pos_left _ (by omega)
                omega
              obtain ⟨qn, hqn⟩ : ∃ x, q - 1 = x := ⟨_, rfl⟩
              obtain ⟨rn, hrn⟩ : ∃ x, r + y1 = x := ⟨_, rfl⟩
              have HRN : Hid (r < rn) := by show _ < _; omega
              rw [hqn] at d1 HE
              rw [hrn] at d2 HE
              clear hqn hrn
              by_cases hb : 4294967296 ≤ rn
              · have hbi : (4294967296 : Int) ≤ (rn : Int) := by omega
                have HEX := Lib.hid (dg_right HYE.out (by omega) HE.out.1 HE.out.2.1 (dg_rest HYE.out (by omega) (by omega) HE.out.1 (by assumption) hb) : dgQ u2 v2 Y = qn)
                clear hb
                obtain ⟨Q2, hQ2⟩ : ∃ Q2, Q2 = qn := ⟨_, rfl⟩
                subst hQ2
                obtain ⟨m1, hm1⟩ : ∃ x, u2 * 4294967296 % 18446744073709551616 = x := ⟨_, rfl⟩
                obtain ⟨m2, hm2⟩ : ∃ x, (m1 + v2) % 18446744073709551616 = x := ⟨_, rfl⟩
                obtain ⟨P, hP⟩ : ∃ x, Q2 * Y = x := ⟨_, rfl⟩
                obtain ⟨m3, hm3⟩ : ∃ x, P % 18446744073709551616 = x := ⟨_, rfl⟩
                obtain ⟨R2, hR2⟩ : ∃ x, dgR u2 v2 Y = x := ⟨_, rfl⟩
                have hR2l : R2 < Y := by rw [← hR2]; exact Nat.mod_lt _ (by omega)
                have hdm : u2 * 4294967296 + v2 = P + R2 := by
                  have h := Nat.div_add_mod (u2 * 4294967296 + v2) Y
                  rw [show (u2 * 4294967296 + v2) / Y = Q2 from HEX.out, show (u2 * 4294967296 + v2) % Y = R2 from hR2, Nat.mul_comm, hP] at h
                  exact h.symm
                have f1 : IntKind.u64.wrap ((u2 : Int) * 4294967296) = (m1 : Int) := by rw [show (u2 : Int) * 4294967296 = ((u2 * 4294967296 : Nat) : Int) by simp, wrap_nat, hm1]
                have f2 : IntKind.u64.wrap ((m1 : Int) + (v2 : Int)) = (m2 : Int) := by rw [← Int.natCast_add, wrap_nat, hm2]
                have f3 : IntKind.u64.wrap ((Q2 : Int) * (Y : Int)) = (m3 : Int) := by rw [← Int.natCast_mul, wrap_nat, hP, hm3]
                have f4 : IntKind.u64.wrap ((m2 : Int) - (m3 : Int)) = (R2 : Int) := wrap_diff hm1.symm hm2.symm hm3.symm hdm (by omega)
                have HR2 : Hid (dgR u2 v2 Y = R2) := hR2
                clear hm1 hm2 hm3 hP hR2 hdm
                have fS : IntKind.u64.wrap (S : Int) = (S : Int) := IntWalk.u64_in _ (by have := HS64.out; omega)
                have fm : min S 64 = S := by have := HS64.out; omega
                have htwo := dg_two (N := M) (Y := Y) HN3.out (by omega)
                rw [HU.out, HV1.out, HV2.out, HEX1.out, Hu2.out, HEX.out, HR2.out, ← HM.out, ← HY.out, Nat.mul_div_mul_right _ _ HSP.out, Nat.mul_mod_mul_right] at htwo
                obtain ⟨t1, t2⟩ := htwo
                have hq1 := dgQ_lt (u := u) (v := v1) huY (by omega)
                have hq2 := dgQ_lt (u := u2) (v := v2) hu2l (by omega)
                rw [HEX1.out] at hq1
                rw [HEX.out] at hq2
                obtain ⟨n1, hn1⟩ : ∃ x, Q1 * 4294967296 = x := ⟨_, rfl⟩
                rw [hn1] at t1
                have g1 : IntKind.u64.wrap ((Q1 : Int) * 4294967296) = (n1 : Int) := by rw [show (Q1 : Int) * 4294967296 = ((Q1 * 4294967296 : Nat) : Int) by simp, wrap_nat, hn1, Nat.mod_eq_of_lt (by omega)]
                have g2 : IntKind.u64.wrap ((n1 : Int) + (Q2 : Int)) = ((N / y : Nat) : Int) := by rw [wrapa _ _ (by omega), t1]
                have g3 : (R2 : Int) / 2 ^ S = ((N % y : Nat) : Int) := by
                  rw [t2, show (2 : Int) ^ S = ((2 ^ S : Nat) : Int) by simp, ← Int.natCast_ediv, Nat.mul_div_cancel _ HSP.out]
                obtain ⟨QQ, hQQ⟩ : ∃ x, N / y = x := ⟨_, rfl⟩
                obtain ⟨RR, hRR⟩ : ∃ x, N % y = x := ⟨_, rfl⟩
                rw [hQQ] at g2
                rw [hRR] at g3
                have HQQ := Lib.hid hQQ
                have HRR := Lib.hid hRR
                have HQI : Hid ((N : Int) / (y : Int) = (QQ : Int)) := by show _ = _; rw [← Int.natCast_ediv, hQQ]
                have HRI : Hid ((N : Int) % (y : Int) = (RR : Int)) := by show _ = _; rw [← Int.natCast_emod, hRR]
                clear t1 t2 hn1 hQQ hRR hq1 hq2
                go_wp2_with fail
                go_ret2
                exact ⟨by first | (rw [HQQ.out, HRR.out]; rfl) | (rw [HQI.out, HRI.out]; rfl), 0, rfl⟩
              · have hbd : decide ((4294967296 : Int) ≤ (rn : Int)) = false := decide_eq_false (by omega)
                have hbd' : decide (4294967296 ≤ rn) = false := decide_eq_false hb
                have HB := Lib.hid hb
                clear hb
                go_wp2_with fail
                refine ⟨⟨qn, rn, rfl, rfl, ⟨HE.out.1, HE.out.2.1, by have := HB.out; omega, HE.out.2.2⟩⟩, ?_⟩
                have := HB.out
                have := HRN.out
                simp [intOf]
                omega
            · have hqd : decide ((4294967296 : Int) ≤ (q : Int)) = false := decide_eq_false (by omega)
              have hqd' : decide (4294967296 ≤ q) = false := decide_eq_false hqb
              obtain ⟨qy, hqy⟩ : ∃ x, q * y2 = x := ⟨_, rfl⟩
              obtain ⟨rb, hrb⟩ : ∃ x, 4294967296 * r = x := ⟨_, rfl⟩
              have hqyl : qy < 18446744073709551616 := by
                rw [← hqy]
                have := Nat.mul_le_mul (show q ≤ 4294967295 by omega) (show y2 ≤ 4294967295 by omega)
                omega
              have w1 : IntKind.u64.wrap ((q : Int) * (y2 : Int)) = (qy : Int) := by rw [wrapm _ _ (by rw [hqy]; exact hqyl), hqy]
              have w2 : IntKind.u64.wrap (4294967296 * (r : Int)) = (rb : Int) := by rw [show (4294967296 : Int) * (r : Int) = ((4294967296 * r : Nat) : Int) by simp, wrap_nat, hrb, Nat.mod_eq_of_lt (by omega)]
              have w3 : IntKind.u64.wrap ((rb : Int) + (v2 : Int)) = ((rb + v2 : Nat) : Int) := wrapa _ _ (by omega)
              have HC : Hid (r * 4294967296 + v2 = rb + v2 ∧ q * y2 = qy) := ⟨by omega, hqy⟩
              obtain ⟨rv, hrv⟩ : ∃ x, rb + v2 = x := ⟨_, rfl⟩
              rw [hrv] at w3 HC
              clear hqy hrb hrv
              by_cases hc : rv < qy
              · have hci : (rv : Int) < (qy : Int) := by omega
                have HGR := Lib.hid (dg_great HYE.out HQ.out.1 hu2l (by omega) (Or.inr (by have := HC.out; omega)) : dgQ u2 v2 Y < q)
                clear hqb hc
                have d1 : IntKind.u64.wrap ((q : Int) - 1) = ((q - 1 : Nat) : Int) := by have := HGR.out; rw [show (q : Int) - 1 = ((q - 1 : Nat) : Int) by omega, wrap_nat, Nat.mod_eq_of_lt (by omega)]
                have d2 : IntKind.u64.wrap ((r : Int) + (y1 : Int)) = ((r + y1 : Nat) : Int) := wrapa _ _ (by omega)
                have HE : Hid ((q - 1) * y1 + (r + y1) = u2 ∧ dgQ u2 v2 Y ≤ q - 1 ∧ q - 1 ≤ 17179869184) := by
                  have h := HGR.out
                  refine ⟨?_, by omega, by omega⟩
                  have h1 := HQ.out.1
                  rw [← h1, Nat.sub_mul, Nat.one_mul]
                  have : y1 ≤ q * y1 := Nat.le_mul_of_pos_left _ (by omega)
                  omega
                obtain ⟨qn, hqn⟩ : ∃ x, q - 1 = x := ⟨_, rfl⟩
                obtain ⟨rn, hrn⟩ : ∃ x, r + y1 = x := ⟨_, rfl⟩
                have HRN : Hid (r < rn) := by show _ < _; omega
                rw [hqn] at d1 HE
                rw [hrn] at d2 HE
                clear hqn hrn
                by_cases hb : 4294967296 ≤ rn
                · have hbi : (4294967296 : Int) ≤ (rn : Int) := by omega
                  have HEX := Lib.hid (dg_right HYE.out (by omega) HE.out.1 HE.out.2.1 (dg_rest HYE.out (by omega) (by omega) HE.out.1 (by assumption) hb) : dgQ u2 v2 Y = qn)
                  clear hb
                  obtain ⟨Q2, hQ2⟩ : ∃ Q2, Q2 = qn := ⟨_, rfl⟩
                  subst hQ2
                  obtain ⟨m1, hm1⟩ : ∃ x, u2 * 4294967296 % 18446744073709551616 = x := ⟨_, rfl⟩
                  obtain ⟨m2, hm2⟩ : ∃ x, (m1 + v2) % 18446744073709551616 = x := ⟨_, rfl⟩
                  obtain ⟨P, hP⟩ : ∃ x, Q2 * Y = x := ⟨_, rfl⟩
                  obtain ⟨m3, hm3⟩ : ∃ x, P % 18446744073709551616 = x := ⟨_, rfl⟩
                  obtain ⟨R2, hR2⟩ : ∃ x, dgR u2 v2 Y = x := ⟨_, rfl⟩
                  have hR2l : R2 < Y := by rw [← hR2]; exact Nat.mod_lt _ (by omega)
                  have hdm : u2 * 4294967296 + v2 = P + R2 := by
                    have h := Nat.div_add_mod (u2 * 4294967296 + v2) Y
                    rw [show (u2 * 4294967296 + v2) / Y = Q2 from HEX.out, show (u2 * 4294967296 + v2) % Y = R2 from hR2, Nat.mul_comm, hP] at h
                    exact h.symm
                  have f1 : IntKind.u64.wrap ((u2 : Int) * 4294967296) = (m1 : Int) := by rw [show (u2 : Int) * 4294967296 = ((u2 * 4294967296 : Nat) : Int) by simp, wrap_nat, hm1]
                  have f2 : IntKind.u64.wrap ((m1 : Int) + (v2 : Int)) = (m2 : Int) := by rw [← Int.natCast_add, wrap_nat, hm2]
                  have f3 : IntKind.u64.wrap ((Q2 : Int) * (Y : Int)) = (m3 : Int) := by rw [← Int.natCast_mul, wrap_nat, hP, hm3]
                  have f4 : IntKind.u64.wrap ((m2 : Int) - (m3 : Int)) = (R2 : Int) := wrap_diff hm1.symm hm2.symm hm3.symm hdm (by omega)
                  have HR2 : Hid (dgR u2 v2 Y = R2) := hR2
                  clear hm1 hm2 hm3 hP hR2 hdm
                  have fS : IntKind.u64.wrap (S : Int) = (S : Int) := IntWalk.u64_in _ (by have := HS64.out; omega)
                  have fm : min S 64 = S := by have := HS64.out; omega
                  have htwo := dg_two (N := M) (Y := Y) HN3.out (by omega)
                  rw [HU.out, HV1.out, HV2.out, HEX1.out, Hu2.out, HEX.out, HR2.out, ← HM.out, ← HY.out, Nat.mul_div_mul_right _ _ HSP.out, Nat.mul_mod_mul_right] at htwo
                  obtain ⟨t1, t2⟩ := htwo
                  have hq1 := dgQ_lt (u := u) (v := v1) huY (by omega)
                  have hq2 := dgQ_lt (u := u2) (v := v2) hu2l (by omega)
                  rw [HEX1.out] at hq1
                  rw [HEX.out] at hq2
                  obtain ⟨n1, hn1⟩ : ∃ x, Q1 * 4294967296 = x := ⟨_, rfl⟩
                  rw [hn1] at t1
                  have g1 : IntKind.u64.wrap ((Q1 : Int) * 4294967296) = (n1 : Int) := by rw [show (Q1 : Int) * 4294967296 = ((Q1 * 4294967296 : Nat) : Int) by simp, wrap_nat, hn1, Nat.mod_eq_of_lt (by omega)]
                  have g2 : IntKind.u64.wrap ((n1 : Int) + (Q2 : Int)) = ((N / y : Nat) : Int) := by rw [wrapa _ _ (by omega), t1]
                  have g3 : (R2 : Int) / 2 ^ S = ((N % y : Nat) : Int) := by
                    rw [t2, show (2 : Int) ^ S = ((2 ^ S : Nat) : Int) by simp, ← Int.natCast_ediv, Nat.mul_div_cancel _ HSP.out]
                  obtain ⟨QQ, hQQ⟩ : ∃ x, N / y = x := ⟨_, rfl⟩
                  obtain ⟨RR, hRR⟩ : ∃ x, N % y = x := ⟨_, rfl⟩
                  rw [hQQ] at g2
                  rw [hRR] at g3
                  have HQQ := Lib.hid hQQ
                  have HRR := Lib.hid hRR
                  have HQI : Hid ((N : Int) / (y : Int) = (QQ : Int)) := by show _ = _; rw [← Int.natCast_ediv, hQQ]
                  have HRI : Hid ((N : Int) % (y : Int) = (RR : Int)) := by show _ = _; rw [← Int.natCast_emod, hRR]
                  clear t1 t2 hn1 hQQ hRR hq1 hq2
                  go_wp2_with fail
                  go_ret2
                  exact ⟨by first | (rw [HQQ.out, HRR.out]; rfl) | (rw [HQI.out, HRI.out]; rfl), 0, rfl⟩
                · have hbd : decide ((4294967296 : Int) ≤ (rn : Int)) = false := decide_eq_false (by omega)
                  have hbd' : decide (4294967296 ≤ rn) = false := decide_eq_false hb
                  have HB := Lib.hid hb
                  clear hb
                  go_wp2_with fail
                  refine ⟨⟨qn, rn, rfl, rfl, ⟨HE.out.1, HE.out.2.1, by have := HB.out; omega, HE.out.2.2⟩⟩, ?_⟩
                  have := HB.out
                  have := HRN.out
                  simp [intOf]
                  omega
              · have hci : decide ((rv : Int) < (qy : Int)) = false := decide_eq_false (by omega)
                have hci' : decide (rv < qy) = false := decide_eq_false hc
                have HEX := Lib.hid (dg_right HYE.out (by omega) HQ.out.1 HQ.out.2.1 (by have := HC.out; omega) : dgQ u2 v2 Y = q)
                clear hqb hc
                obtain ⟨Q2, hQ2⟩ : ∃ Q2, Q2 = q := ⟨_, rfl⟩
                subst hQ2
                obtain ⟨m1, hm1⟩ : ∃ x, u2 * 4294967296 % 18446744073709551616 = x := ⟨_, rfl⟩
                obtain ⟨m2, hm2⟩ : ∃ x, (m1 + v2) % 18446744073709551616 = x := ⟨_, rfl⟩
                obtain ⟨P, hP⟩ : ∃ x, Q2 * Y = x := ⟨_, rfl⟩
                obtain ⟨m3, hm3⟩ : ∃ x, P % 18446744073709551616 = x := ⟨_, rfl⟩
                obtain ⟨R2, hR2⟩ : ∃ x, dgR u2 v2 Y = x := ⟨_, rfl⟩
                have hR2l : R2 < Y := by rw [← hR2]; exact Nat.mod_lt _ (by omega)
                have hdm : u2 * 4294967296 + v2 = P + R2 := by
                  have h := Nat.div_add_mod (u2 * 4294967296 + v2) Y
                  rw [show (u2 * 4294967296 + v2) / Y = Q2 from HEX.out, show (u2 * 4294967296 + v2) % Y = R2 from hR2, Nat.mul_comm, hP] at h
                  exact h.symm
                have f1 : IntKind.u64.wrap ((u2 : Int) * 4294967296) = (m1 : Int) := by rw [show (u2 : Int) * 4294967296 = ((u2 * 4294967296 : Nat) : Int) by simp, wrap_nat, hm1]
                have f2 : IntKind.u64.wrap ((m1 : Int) + (v2 : Int)) = (m2 : Int) := by rw [← Int.natCast_add, wrap_nat, hm2]
                have f3 : IntKind.u64.wrap ((Q2 : Int) * (Y : Int)) = (m3 : Int) := by rw [← Int.natCast_mul, wrap_nat, hP, hm3]
                have f4 : IntKind.u64.wrap ((m2 : Int) - (m3 : Int)) = (R2 : Int) := wrap_diff hm1.symm hm2.symm hm3.symm hdm (by omega)
                have HR2 : Hid (dgR u2 v2 Y = R2) := hR2
                clear hm1 hm2 hm3 hP hR2 hdm
                have fS : IntKind.u64.wrap (S : Int) = (S : Int) := IntWalk.u64_in _ (by have := HS64.out; omega)
                have fm : min S 64 = S := by have := HS64.out; omega
                have htwo := dg_two (N := M) (Y := Y) HN3.out (by omega)
                rw [HU.out, HV1.out, HV2.out, HEX1.out, Hu2.out, HEX.out, HR2.out, ← HM.out, ← HY.out, Nat.mul_div_mul_right _ _ HSP.out, Nat.mul_mod_mul_right] at htwo
                obtain ⟨t1, t2⟩ := htwo
                have hq1 := dgQ_lt (u := u) (v := v1) huY (by omega)
                have hq2 := dgQ_lt (u := u2) (v := v2) hu2l (by omega)
                rw [HEX1.out] at hq1
                rw [HEX.out] at hq2
                obtain ⟨n1, hn1⟩ : ∃ x, Q1 * 4294967296 = x := ⟨_, rfl⟩
                rw [hn1] at t1
                have g1 : IntKind.u64.wrap ((Q1 : Int) * 4294967296) = (n1 : Int) := by rw [show (Q1 : Int) * 4294967296 = ((Q1 * 4294967296 : Nat) : Int) by simp, wrap_nat, hn1, Nat.mod_eq_of_lt (by omega)]
                have g2 : IntKind.u64.wrap ((n1 : Int) + (Q2 : Int)) = ((N / y : Nat) : Int) := by rw [wrapa _ _ (by omega), t1]
                have g3 : (R2 : Int) / 2 ^ S = ((N % y : Nat) : Int) := by
                  rw [t2, show (2 : Int) ^ S = ((2 ^ S : Nat) : Int) by simp, ← Int.natCast_ediv, Nat.mul_div_cancel _ HSP.out]
                obtain ⟨QQ, hQQ⟩ : ∃ x, N / y = x := ⟨_, rfl⟩
                obtain ⟨RR, hRR⟩ : ∃ x, N % y = x := ⟨_, rfl⟩
                rw [hQQ] at g2
                rw [hRR] at g3
                have HQQ := Lib.hid hQQ
                have HRR := Lib.hid hRR
                have HQI : Hid ((N : Int) / (y : Int) = (QQ : Int)) := by show _ = _; rw [← Int.natCast_ediv, hQQ]
                have HRI : Hid ((N : Int) % (y : Int) = (RR : Int)) := by show _ = _; rw [← Int.natCast_emod, hRR]
                clear t1 t2 hn1 hQQ hRR hq1 hq2
                go_wp2_with fail
                go_ret2
                exact ⟨by first | (rw [HQQ.out, HRR.out]; rfl) | (rw [HQI.out, HRI.out]; rfl), 0, rfl⟩
        · have hbd : decide ((4294967296 : Int) ≤ (rn : Int)) = false := decide_eq_false (by omega)
          have hbd' : decide (4294967296 ≤ rn) = false := decide_eq_false hb
          have HB := Lib.hid hb
          clear hb
          go_wp2_with fail
          refine ⟨⟨qn, rn, rfl, rfl, ⟨HE.out.1, HE.out.2.1, by have := HB.out; omega, HE.out.2.2⟩⟩, ?_⟩
          have := HB.out
          have := HRN.out
          simp [intOf]
          omega
      · have hqd : decide ((4294967296 : Int) ≤ (q : Int)) = false := decide_eq_false (by omega)
        have hqd' : decide (4294967296 ≤ q) = false := decide_eq_false hqb
        obtain ⟨qy, hqy⟩ : ∃ x, q * y2 = x := ⟨_, rfl⟩
        obtain ⟨rb, hrb⟩ : ∃ x, 4294967296 * r = x := ⟨_, rfl⟩
        have hqyl : qy < 18446744073709551616 := by
          rw [← hqy]
          have := Nat.mul_le_mul (show q ≤ 4294967295 by omega) (show y2 ≤ 4294967295 by omega)
          omega
        have w1 : IntKind.u64.wrap ((q : Int) * (y2 : Int)) = (qy : Int) := by rw [wrapm _ _ (by rw [hqy]; exact hqyl), hqy]
        have w2 : IntKind.u64.wrap (4294967296 * (r : Int)) = (rb : Int) := by rw [show (4294967296 : Int) * (r : Int) = ((4294967296 * r : Nat) : Int) by simp, wrap_nat, hrb, Nat.mod_eq_of_lt (by omega)]
        have w3 : IntKind.u64.wrap ((rb : Int) + (v1 : Int)) = ((rb + v1 : Nat) : Int) := wrapa _ _ (by omega)
        have HC : Hid (r * 4294967296 + v1 = rb + v1 ∧ q * y2 = qy) := ⟨by omega, hqy⟩
        obtain ⟨rv, hrv⟩ : ∃ x, rb + v1 = x := ⟨_, rfl⟩
        rw [hrv] at w3 HC
        clear hqy hrb hrv
        by_cases hc : rv < qy
        · have hci : (rv : Int) < (qy : Int) := by omega
          have HGR := Lib.hid (dg_great HYE.out HQ.out.1 huY (by omega) (Or.inr (by have := HC.out; omega)) : dgQ u v1 Y < q)
          clear hqb hc
          have d1 : IntKind.u64.wrap ((q : Int) - 1) = ((q - 1 : Nat) : Int) := by have := HGR.out; rw [show (q : Int) - 1 = ((q - 1 : Nat) : Int) by omega, wrap_nat, Nat.mod_eq_of_lt (by omega)]
          have d2 : IntKind.u64.wrap ((r : Int) + (y1 : Int)) = ((r + y1 : Nat) : Int) := wrapa _ _ (by omega)
          have HE : Hid ((q - 1) * y1 + (r + y1) = u ∧ dgQ u v1 Y ≤ q - 1 ∧ q - 1 ≤ 17179869184) := by
            have h := HGR.out
            refine ⟨?_, by omega, by omega⟩
            have h1 := HQ.out.1
            rw [← h1, Nat.sub_mul, Nat.one_mul]
            have : y1 ≤ q * y1 := Nat.le_mul_of_pos_left _ (by omega)
            omega
          obtain ⟨qn, hqn⟩ : ∃ x, q - 1 = x := ⟨_, rfl⟩
          obtain ⟨rn, hrn⟩ : ∃ x, r + y1 = x := ⟨_, rfl⟩
          have HRN : Hid (r < rn) := by show _ < _; omega
          rw [hqn] at d1 HE
          rw [hrn] at d2 HE
          clear hqn hrn
          by_cases hb : 4294967296 ≤ rn
          · have hbi : (4294967296 : Int) ≤ (rn : Int) := by omega
            have HEX := Lib.hid (dg_right HYE.out (by omega) HE.out.1 HE.out.2.1 (dg_rest HYE.out (by omega) (by omega) HE.out.1 (by assumption) hb) : dgQ u v1 Y = qn)
            clear hb
            obtain ⟨Q1, hQ1⟩ : ∃ Q1, Q1 = qn := ⟨_, rfl⟩
            subst hQ1
            have HEX1 := Lib.hid HEX.out
            obtain ⟨m1, hm1⟩ : ∃ x, u * 4294967296 % 18446744073709551616 = x := ⟨_, rfl⟩
            obtain ⟨m2, hm2⟩ : ∃ x, (m1 + v1) % 18446744073709551616 = x := ⟨_, rfl⟩
            obtain ⟨P, hP⟩ : ∃ x, Q1 * Y = x := ⟨_, rfl⟩
            obtain ⟨m3, hm3⟩ : ∃ x, P % 18446744073709551616 = x := ⟨_, rfl⟩
            obtain ⟨u2, hu2⟩ : ∃ x, dgR u v1 Y = x := ⟨_, rfl⟩
            have hu2l : u2 < Y := by rw [← hu2]; exact Nat.mod_lt _ (by omega)
            have hdm : u * 4294967296 + v1 = P + u2 := by
              have h := Nat.div_add_mod (u * 4294967296 + v1) Y
              rw [show (u * 4294967296 + v1) / Y = Q1 from HEX.out, show (u * 4294967296 + v1) % Y = u2 from hu2, Nat.mul_comm, hP] at h
              exact h.symm
            have f1 : IntKind.u64.wrap ((u : Int) * 4294967296) = (m1 : Int) := by rw [show (u : Int) * 4294967296 = ((u * 4294967296 : Nat) : Int) by simp, wrap_nat, hm1]
            have f2 : IntKind.u64.wrap ((m1 : Int) + (v1 : Int)) = (m2 : Int) := by rw [← Int.natCast_add, wrap_nat, hm2]
            have f3 : IntKind.u64.wrap ((Q1 : Int) * (Y : Int)) = (m3 : Int) := by rw [← Int.natCast_mul, wrap_nat, hP, hm3]
            have f4 : IntKind.u64.wrap ((m2 : Int) - (m3 : Int)) = (u2 : Int) := wrap_diff hm1.symm hm2.symm hm3.symm hdm (by omega)
            have Hu2 : Hid (dgR u v1 Y = u2) := hu2
            clear hm1 hm2 hm3 hP hu2 hdm
            obtain ⟨q2, hq2⟩ : ∃ q, u2 / y1 = q := ⟨_, rfl⟩
            obtain ⟨r2, hr2⟩ : ∃ r, u2 % y1 = r := ⟨_, rfl⟩
            obtain ⟨p2, hp2⟩ : ∃ p, q2 * y1 = p := ⟨_, rfl⟩
            have hdm := Nat.div_add_mod u2 y1
            rw [hq2, hr2, Nat.mul_comm, hp2] at hdm
            have kq : IntKind.u64.wrap ((u2 : Int) / (y1 : Int)) = (q2 : Int) := by rw [← Int.natCast_ediv, hq2, wrap_nat, Nat.mod_eq_of_lt (by have := Nat.div_le_self u2 y1; omega)]
            have kp : IntKind.u64.wrap ((q2 : Int) * (y1 : Int)) = (p2 : Int) := by rw [← hp2]; exact wrapm _ _ (by rw [hp2]; omega)
            have kr : IntKind.u64.wrap ((u2 : Int) - (p2 : Int)) = (r2 : Int) := by rw [wraps _ _ (by omega) (by omega)]; congr 1; omega
            have Hq2 : Hid (q2 * y1 + r2 = u2 ∧ dgQ u2 v2 Y ≤ q2 ∧ r2 < 4294967296) := by
              refine ⟨by omega, ?_, by have := Nat.mod_lt u2 (show 0 < y1 by omega); omega⟩
              have h := dg_start (u := u2) (v := v2) HYE.out (by omega) (by omega)
              rw [hq2] at h
              exact h
            have HLq2 : Hid (q2 ≤ 17179869184) := by
              show _ ≤ _
              rcases Nat.lt_or_ge 17179869184 q2 with h | h
              · have := Nat.mul_le_mul (show 17179869185 ≤ q2 from h) hy1l
                omega
              · exact h
            clear hq2 hr2 hp2 hdm
            go_wp2_with fail
            clear f1 f2 f3 f4 kq kp kr
            go_loop [18, 16] (fun a b => ∃ q r : Nat, a = .int .u64 (q : Int) ∧ b = .int .u64 (r : Int) ∧ Hid (q * y1 + r = u2 ∧ dgQ u2 v2 Y ≤ q ∧ r < 4294967296 ∧ q ≤ 17179869184)) (fun _ b => 4294967296 - (intOf b).toNat)
            case atStart => exact ⟨q2, r2, rfl, rfl, ⟨Hq2.out.1, Hq2.out.2.1, Hq2.out.2.2, HLq2.out⟩⟩
            case round =>
              obtain ⟨q, r, rfl, rfl, HQ⟩ := hrel
              have hr := HQ.out.2.2.1
              have hq := HQ.out.2.2.2
              by_cases hqb : 4294967296 ≤ q
              · have hqi : (4294967296 : Int) ≤ (q : Int) := by omega
                have hqd : decide ((4294967296 : Int) ≤ (q : Int)) = true := by simp; omega
                have HGR := Lib.hid (dg_great HYE.out HQ.out.1 hu2l (by omega) (Or.inl hqb) : dgQ u2 v2 Y < q)
                have d1 : IntKind.u64.wrap ((q : Int) - 1) = ((q - 1 : Nat) : Int) := by have := HGR.out; rw [show (q : Int) - 1 = ((q - 1 : Nat) : Int) by omega, wrap_nat, Nat.mod_eq_of_lt (by omega)]
                have d2 : IntKind.u64.wrap ((r : Int) + (y1 : Int)) = ((r + y1 : Nat) : Int) := wrapa _ _ (by omega)
                have HE : Hid ((q - 1) * y1 + (r + y1) = u2 ∧ dgQ u2 v2 Y ≤ q - 1 ∧ q - 1 ≤ 17179869184) := by
                  have h := HGR.out
                  refine ⟨?_, by omega, by omega⟩
                  have h1 := HQ.out.1
                  rw [← h1, Nat.sub_mul, Nat.one_mul]
                  have : y1 ≤ q * y1 := Nat.le_mul_of_pos_left _ (by omega)
                  omega
                obtain ⟨qn, hqn⟩ : ∃ x, q - 1 = x := ⟨_, rfl⟩
                obtain ⟨rn, hrn⟩ : ∃ x, r + y1 = x := ⟨_, rfl⟩
                have HRN : Hid (r < rn) := by show _ < _; omega
                rw [hqn] at d1 HE
                rw [hrn] at d2 HE
                clear hqn hrn
                by_cases hb : 4294967296 ≤ rn
                · have hbi : (4294967296 : Int) ≤ (rn : Int) := by omega
                  have HEX := Lib.hid (dg_right HYE.out (by omega) HE.out.1 HE.out.2.1 (dg_rest HYE.out (by omega) (by omega) HE.out.1 (by assumption) hb) : dgQ u2 v2 Y = qn)
                  clear hb
                  obtain ⟨Q2, hQ2⟩ : ∃ Q2, Q2 = qn := ⟨_, rfl⟩
                  subst hQ2
                  obtain ⟨m1, hm1⟩ : ∃ x, u2 * 4294967296 % 18446744073709551616 = x := ⟨_, rfl⟩
                  obtain ⟨m2, hm2⟩ : ∃ x, (m1 + v2) % 18446744073709551616 = x := ⟨_, rfl⟩
                  obtain ⟨P, hP⟩ : ∃ x, Q2 * Y = x := ⟨_, rfl⟩
                  obtain ⟨m3, hm3⟩ : ∃ x, P % 18446744073709551616 = x := ⟨_, rfl⟩
                  obtain ⟨R2, hR2⟩ : ∃ x, dgR u2 v2 Y = x := ⟨_, rfl⟩
                  have hR2l : R2 < Y := by rw [← hR2]; exact Nat.mod_lt _ (by omega)
                  have hdm : u2 * 4294967296 + v2 = P + R2 := by
                    have h := Nat.div_add_mod (u2 * 4294967296 + v2) Y
                    rw [show (u2 * 4294967296 + v2) / Y = Q2 from HEX.out, show (u2 * 4294967296 + v2) % Y = R2 from hR2, Nat.mul_comm, hP] at h
                    exact h.symm
                  have f1 : IntKind.u64.wrap ((u2 : Int) * 4294967296) = (m1 : Int) := by rw [show (u2 : Int) * 4294967296 = ((u2 * 4294967296 : Nat) : Int) by simp, wrap_nat, hm1]
                  have f2 : IntKind.u64.wrap ((m1 : Int) + (v2 : Int)) = (m2 : Int) := by rw [← Int.natCast_add, wrap_nat, hm2]
                  have f3 : IntKind.u64.wrap ((Q2 : Int) * (Y : Int)) = (m3 : Int) := by rw [← Int.natCast_mul, wrap_nat, hP, hm3]
                  have f4 : IntKind.u64.wrap ((m2 : Int) - (m3 : Int)) = (R2 : Int) := wrap_diff hm1.symm hm2.symm hm3.symm hdm (by omega)
                  have HR2 : Hid (dgR u2 v2 Y = R2) := hR2
                  clear hm1 hm2 hm3 hP hR2 hdm
                  have fS : IntKind.u64.wrap (S : Int) = (S : Int) := IntWalk.u64_in _ (by have := HS64.out; omega)
                  have fm : min S 64 = S := by have := HS64.out; omega
                  have htwo := dg_two (N := M) (Y := Y) HN3.out (by omega)
                  rw [HU.out, HV1.out, HV2.out, HEX1.out, Hu2.out, HEX.out, HR2.out, ← HM.out, ← HY.out, Nat.mul_div_mul_right _ _ HSP.out, Nat.mul_mod_mul_right] at htwo
                  obtain ⟨t1, t2⟩ := htwo
                  have hq1 := dgQ_lt (u := u) (v := v1) huY (by omega)
                  have hq2 := dgQ_lt (u := u2) (v := v2) hu2l (by omega)
                  rw [HEX1.out] at hq1
                  rw [HEX.out] at hq2
                  obtain ⟨n1, hn1⟩ : ∃ x, Q1 * 4294967296 = x := ⟨_, rfl⟩
                  rw [hn1] at t1
                  have g1 : IntKind.u64.wrap ((Q1 : Int) * 4294967296) = (n1 : Int) := by rw [show (Q1 : Int) * 4294967296 = ((Q1 * 4294967296 : Nat) : Int) by simp, wrap_nat, hn1, Nat.mod_eq_of_lt (by omega)]
                  have g2 : IntKind.u64.wrap ((n1 : Int) + (Q2 : Int)) = ((N / y : Nat) : Int) := by rw [wrapa _ _ (by omega), t1]
                  have g3 : (R2 : Int) / 2 ^ S = ((N % y : Nat) : Int) := by
                    rw [t2, show (2 : Int) ^ S = ((2 ^ S : Nat) : Int) by simp, ← Int.natCast_ediv, Nat.mul_div_cancel _ HSP.out]
                  obtain ⟨QQ, hQQ⟩ : ∃ x, N / y = x := ⟨_, rfl⟩
                  obtain ⟨RR, hRR⟩ : ∃ x, N % y = x := ⟨_, rfl⟩
                  rw [hQQ] at g2
                  rw [hRR] at g3
                  have HQQ := Lib.hid hQQ
                  have HRR := Lib.hid hRR
                  have HQI : Hid ((N : Int) / (y : Int) = (QQ : Int)) := by show _ = _; rw [← Int.natCast_ediv, hQQ]
                  have HRI : Hid ((N : Int) % (y : Int) = (RR : Int)) := by show _ = _; rw [← Int.natCast_emod, hRR]
                  clear t1 t2 hn1 hQQ hRR hq1 hq2
                  go_wp2_with fail
                  go_ret2
                  exact ⟨by first | (rw [HQQ.out, HRR.out]; rfl) | (rw [HQI.out, HRI.out]; rfl), 0, rfl⟩
                · have hbd : decide ((4294967296 : Int) ≤ (rn : Int)) = false := decide_eq_false (by omega)
                  have hbd' : decide (4294967296 ≤ rn) = false := decide_eq_false hb
                  have HB := Lib.hid hb
                  clear hb
                  go_wp2_with fail
                  refine ⟨⟨qn, rn, rfl, rfl, ⟨HE.out.1, HE.out.2.1, by have := HB.out; omega, HE.out.2.2⟩⟩, ?_⟩
                  have := HB.out
                  have := HRN.out
                  simp [intOf]
                  omega
              · have hqd : decide ((4294967296 : Int) ≤ (q : Int)) = false := decide_eq_false (by omega)
                have hqd' : decide (4294967296 ≤ q) = false := decide_eq_false hqb
                obtain ⟨qy, hqy⟩ : ∃ x, q * y2 = x := ⟨_, rfl⟩
                obtain ⟨rb, hrb⟩ : ∃ x, 4294967296 * r = x := ⟨_, rfl⟩
                have hqyl : qy < 18446744073709551616 := by
                  rw [← hqy]
                  have := Nat.mul_le_mul (show q ≤ 4294967295 by omega) (show y2 ≤ 4294967295 by omega)
                  omega
                have w1 : IntKind.u64.wrap ((q : Int) * (y2 : Int)) = (qy : Int) := by rw [wrapm _ _ (by rw [hqy]; exact hqyl), hqy]
                have w2 : IntKind.u64.wrap (4294967296 * (r : Int)) = (rb : Int) := by rw [show (4294967296 : Int) * (r : Int) = ((4294967296 * r : Nat) : Int) by simp, wrap_nat, hrb, Nat.mod_eq_of_lt (by omega)]
                have w3 : IntKind.u64.wrap ((rb : Int) + (v2 : Int)) = ((rb + v2 : Nat) : Int) := wrapa _ _ (by omega)
                have HC : Hid (r * 4294967296 + v2 = rb + v2 ∧ q * y2 = qy) := ⟨by omega, hqy⟩
                obtain ⟨rv, hrv⟩ : ∃ x, rb + v2 = x := ⟨_, rfl⟩
                rw [hrv] at w3 HC
                clear hqy hrb hrv
                by_cases hc : rv < qy
                · have hci : (rv : Int) < (qy : Int) := by omega
                  have HGR := Lib.hid (dg_great HYE.out HQ.out.1 hu2l (by omega) (Or.inr (by have := HC.out; omega)) : dgQ u2 v2 Y < q)
                  clear hqb hc
                  have d1 : IntKind.u64.wrap ((q : Int) - 1) = ((q - 1 : Nat) : Int) := by have := HGR.out; rw [show (q : Int) - 1 = ((q - 1 : Nat) : Int) by omega, wrap_nat, Nat.mod_eq_of_lt (by omega)]
                  have d2 : IntKind.u64.wrap ((r : Int) + (y1 : Int)) = ((r + y1 : Nat) : Int) := wrapa _ _ (by omega)
                  have HE : Hid ((q - 1) * y1 + (r + y1) = u2 ∧ dgQ u2 v2 Y ≤ q - 1 ∧ q - 1 ≤ 17179869184) := by
                    have h := HGR.out
                    refine ⟨?_, by omega, by omega⟩
                    have h1 := HQ.out.1
                    rw [← h1, Nat.sub_mul, Nat.one_mul]
                    have : y1 ≤ q * y1 := Nat.le_mul_of_pos_left _ (by omega)
                    omega
                  obtain ⟨qn, hqn⟩ : ∃ x, q - 1 = x := ⟨_, rfl⟩
                  obtain ⟨rn, hrn⟩ : ∃ x, r + y1 = x := ⟨_, rfl⟩
                  have HRN : Hid (r < rn) := by show _ < _; omega
                  rw [hqn] at d1 HE
                  rw [hrn] at d2 HE
                  clear hqn hrn
                  by_cases hb : 4294967296 ≤ rn
                  · have hbi : (4294967296 : Int) ≤ (rn : Int) := by omega
                    have HEX := Lib.hid (dg_right HYE.out (by omega) HE.out.1 HE.out.2.1 (dg_rest HYE.out (by omega) (by omega) HE.out.1 (by assumption) hb) : dgQ u2 v2 Y = qn)
                    clear hb
                    obtain ⟨Q2, hQ2⟩ : ∃ Q2, Q2 = qn := ⟨_, rfl⟩
                    subst hQ2
                    obtain ⟨m1, hm1⟩ : ∃ x, u2 * 4294967296 % 18446744073709551616 = x := ⟨_, rfl⟩
                    obtain ⟨m2, hm2⟩ : ∃ x, (m1 + v2) % 18446744073709551616 = x := ⟨_, rfl⟩
                    obtain ⟨P, hP⟩ : ∃ x, Q2 * Y = x := ⟨_, rfl⟩
                    obtain ⟨m3, hm3⟩ : ∃ x, P % 18446744073709551616 = x := ⟨_, rfl⟩
                    obtain ⟨R2, hR2⟩ : ∃ x, dgR u2 v2 Y = x := ⟨_, rfl⟩
                    have hR2l : R2 < Y := by rw [← hR2]; exact Nat.mod_lt _ (by omega)
                    have hdm : u2 * 4294967296 + v2 = P + R2 := by
                      have h := Nat.div_add_mod (u2 * 4294967296 + v2) Y
                      rw [show (u2 * 4294967296 + v2) / Y = Q2 from HEX.out, show (u2 * 4294967296 + v2) % Y = R2 from hR2, Nat.mul_comm, hP] at h
                      exact h.symm
                    have f1 : IntKind.u64.wrap ((u2 : Int) * 4294967296) = (m1 : Int) := by rw [show (u2 : Int) * 4294967296 = ((u2 * 4294967296 : Nat) : Int) by simp, wrap_nat, hm1]
                    have f2 : IntKind.u64.wrap ((m1 : Int) + (v2 : Int)) = (m2 : Int) := by rw [← Int.natCast_add, wrap_nat, hm2]
                    have f3 : IntKind.u64.wrap ((Q2 : Int) * (Y : Int)) = (m3 : Int) := by rw [← Int.natCast_mul, wrap_nat, hP, hm3]
                    have f4 : IntKind.u64.wrap ((m2 : Int) - (m3 : Int)) = (R2 : Int) := wrap_diff hm1.symm hm2.symm hm3.symm hdm (by omega)
                    have HR2 : Hid (dgR u2 v2 Y = R2) := hR2
                    clear hm1 hm2 hm3 hP hR2 hdm
                    have fS : IntKind.u64.wrap (S : Int) = (S : Int) := IntWalk.u64_in _ (by have := HS64.out; omega)
                    have fm : min S 64 = S := by have := HS64.out; omega
                    have htwo := dg_two (N := M) (Y := Y) HN3.out (by omega)
                    rw [HU.out, HV1.out, HV2.out, HEX1.out, Hu2.out, HEX.out, HR2.out, ← HM.out, ← HY.out, Nat.mul_div_mul_right _ _ HSP.out, Nat.mul_mod_mul_right] at htwo
                    obtain ⟨t1, t2⟩ := htwo
                    have hq1 := dgQ_lt (u := u) (v := v1) huY (by omega)
                    have hq2 := dgQ_lt (u := u2) (v := v2) hu2l (by omega)
                    rw [HEX1.out] at hq1
                    rw [HEX.out] at hq2
                    obtain ⟨n1, hn1⟩ : ∃ x, Q1 * 4294967296 = x := ⟨_, rfl⟩
                    rw [hn1] at t1
                    have g1 : IntKind.u64.wrap ((Q1 : Int) * 4294967296) = (n1 : Int) := by rw [show (Q1 : Int) * 4294967296 = ((Q1 * 4294967296 : Nat) : Int) by simp, wrap_nat, hn1, Nat.mod_eq_of_lt (by omega)]
                    have g2 : IntKind.u64.wrap ((n1 : Int) + (Q2 : Int)) = ((N / y : Nat) : Int) := by rw [wrapa _ _ (by omega), t1]
                    have g3 : (R2 : Int) / 2 ^ S = ((N % y : Nat) : Int) := by
                      rw [t2, show (2 : Int) ^ S = ((2 ^ S : Nat) : Int) by simp, ← Int.natCast_ediv, Nat.mul_div_cancel _ HSP.out]
                    obtain ⟨QQ, hQQ⟩ : ∃ x, N / y = x := ⟨_, rfl⟩
                    obtain ⟨RR, hRR⟩ : ∃ x, N % y = x := ⟨_, rfl⟩
                    rw [hQQ] at g2
                    rw [hRR] at g3
                    have HQQ := Lib.hid hQQ
                    have HRR := Lib.hid hRR
                    have HQI : Hid ((N : Int) / (y : Int) = (QQ : Int)) := by show _ = _; rw [← Int.natCast_ediv, hQQ]
                    have HRI : Hid ((N : Int) % (y : Int) = (RR : Int)) := by show _ = _; rw [← Int.natCast_emod, hRR]
                    clear t1 t2 hn1 hQQ hRR hq1 hq2
                    go_wp2_with fail
                    go_ret2
                    exact ⟨by first | (rw [HQQ.out, HRR.out]; rfl) | (rw [HQI.out, HRI.out]; rfl), 0, rfl⟩
                  · have hbd : decide ((4294967296 : Int) ≤ (rn : Int)) = false := decide_eq_false (by omega)
                    have hbd' : decide (4294967296 ≤ rn) = false := decide_eq_false hb
                    have HB := Lib.hid hb
                    clear hb
                    go_wp2_with fail
                    refine ⟨⟨qn, rn, rfl, rfl, ⟨HE.out.1, HE.out.2.1, by have := HB.out; omega, HE.out.2.2⟩⟩, ?_⟩
                    have := HB.out
                    have := HRN.out
                    simp [intOf]
                    omega
                · have hci : decide ((rv : Int) < (qy : Int)) = false := decide_eq_false (by omega)
                  have hci' : decide (rv < qy) = false := decide_eq_false hc
                  have HEX := Lib.hid (dg_right HYE.out (by omega) HQ.out.1 HQ.out.2.1 (by have := HC.out; omega) : dgQ u2 v2 Y = q)
                  clear hqb hc
                  obtain ⟨Q2, hQ2⟩ : ∃ Q2, Q2 = q := ⟨_, rfl⟩
                  subst hQ2
                  obtain ⟨m1, hm1⟩ : ∃ x, u2 * 4294967296 % 18446744073709551616 = x := ⟨_, rfl⟩
                  obtain ⟨m2, hm2⟩ : ∃ x, (m1 + v2) % 18446744073709551616 = x := ⟨_, rfl⟩
                  obtain ⟨P, hP⟩ : ∃ x, Q2 * Y = x := ⟨_, rfl⟩
                  obtain ⟨m3, hm3⟩ : ∃ x, P % 18446744073709551616 = x := ⟨_, rfl⟩
                  obtain ⟨R2, hR2⟩ : ∃ x, dgR u2 v2 Y = x := ⟨_, rfl⟩
                  have hR2l : R2 < Y := by rw [← hR2]; exact Nat.mod_lt _ (by omega)
                  have hdm : u2 * 4294967296 + v2 = P + R2 := by
                    have h := Nat.div_add_mod (u2 * 4294967296 + v2) Y
                    rw [show (u2 * 4294967296 + v2) / Y = Q2 from HEX.out, show (u2 * 4294967296 + v2) % Y = R2 from hR2, Nat.mul_comm, hP] at h
                    exact h.symm
                  have f1 : IntKind.u64.wrap ((u2 : Int) * 4294967296) = (m1 : Int) := by rw [show (u2 : Int) * 4294967296 = ((u2 * 4294967296 : Nat) : Int) by simp, wrap_nat, hm1]
                  have f2 : IntKind.u64.wrap ((m1 : Int) + (v2 : Int)) = (m2 : Int) := by rw [← Int.natCast_add, wrap_nat, hm2]
                  have f3 : IntKind.u64.wrap ((Q2 : Int) * (Y : Int)) = (m3 : Int) := by rw [← Int.natCast_mul, wrap_nat, hP, hm3]
                  have f4 : IntKind.u64.wrap ((m2 : Int) - (m3 : Int)) = (R2 : Int) := wrap_diff hm1.symm hm2.symm hm3.symm hdm (by omega)
                  have HR2 : Hid (dgR u2 v2 Y = R2) := hR2
                  clear hm1 hm2 hm3 hP hR2 hdm
                  have fS : IntKind.u64.wrap (S : Int) = (S : Int) := IntWalk.u64_in _ (by have := HS64.out; omega)
                  have fm : min S 64 = S := by have := HS64.out; omega
                  have htwo := dg_two (N := M) (Y := Y) HN3.out (by omega)
                  rw [HU.out, HV1.out, HV2.out, HEX1.out, Hu2.out, HEX.out, HR2.out, ← HM.out, ← HY.out, Nat.mul_div_mul_right _ _ HSP.out, Nat.mul_mod_mul_right] at htwo
                  obtain ⟨t1, t2⟩ := htwo
                  have hq1 := dgQ_lt (u := u) (v := v1) huY (by omega)
                  have hq2 := dgQ_lt (u := u2) (v := v2) hu2l (by omega)
                  rw [HEX1.out] at hq1
                  rw [HEX.out] at hq2
                  obtain ⟨n1, hn1⟩ : ∃ x, Q1 * 4294967296 = x := ⟨_, rfl⟩
                  rw [hn1] at t1
                  have g1 : IntKind.u64.wrap ((Q1 : Int) * 4294967296) = (n1 : Int) := by rw [show (Q1 : Int) * 4294967296 = ((Q1 * 4294967296 : Nat) : Int) by simp, wrap_nat, hn1, Nat.mod_eq_of_lt (by omega)]
                  have g2 : IntKind.u64.wrap ((n1 : Int) + (Q2 : Int)) = ((N / y : Nat) : Int) := by rw [wrapa _ _ (by omega), t1]
                  have g3 : (R2 : Int) / 2 ^ S = ((N % y : Nat) : Int) := by
                    rw [t2, show (2 : Int) ^ S = ((2 ^ S : Nat) : Int) by simp, ← Int.natCast_ediv, Nat.mul_div_cancel _ HSP.out]
                  obtain ⟨QQ, hQQ⟩ : ∃ x, N / y = x := ⟨_, rfl⟩
                  obtain ⟨RR, hRR⟩ : ∃ x, N % y = x := ⟨_, rfl⟩
                  rw [hQQ] at g2
                  rw [hRR] at g3
                  have HQQ := Lib.hid hQQ
                  have HRR := Lib.hid hRR
                  have HQI : Hid ((N : Int) / (y : Int) = (QQ : Int)) := by show _ = _; rw [← Int.natCast_ediv, hQQ]
                  have HRI : Hid ((N : Int) % (y : Int) = (RR : Int)) := by show _ = _; rw [← Int.natCast_emod, hRR]
                  clear t1 t2 hn1 hQQ hRR hq1 hq2
                  go_wp2_with fail
                  go_ret2
                  exact ⟨by first | (rw [HQQ.out, HRR.out]; rfl) | (rw [HQI.out, HRI.out]; rfl), 0, rfl⟩
          · have hbd : decide ((4294967296 : Int) ≤ (rn : Int)) = false := decide_eq_false (by omega)
            have hbd' : decide (4294967296 ≤ rn) = false := decide_eq_false hb
            have HB := Lib.hid hb
            clear hb
            go_wp2_with fail
            refine ⟨⟨qn, rn, rfl, rfl, ⟨HE.out.1, HE.out.2.1, by have := HB.out; omega, HE.out.2.2⟩⟩, ?_⟩
            have := HB.out
            have := HRN.out
            simp [intOf]
            omega
        · have hci : decide ((rv : Int) < (qy : Int)) = false := decide_eq_false (by omega)
          have hci' : decide (rv < qy) = false := decide_eq_false hc
          have HEX := Lib.hid (dg_right HYE.out (by omega) HQ.out.1 HQ.out.2.1 (by have := HC.out; omega) : dgQ u v1 Y = q)
          clear hqb hc
          obtain ⟨Q1, hQ1⟩ : ∃ Q1, Q1 = q := ⟨_, rfl⟩
          subst hQ1
          have HEX1 := Lib.hid HEX.out
          obtain ⟨m1, hm1⟩ : ∃ x, u * 4294967296 % 18446744073709551616 = x := ⟨_, rfl⟩
          obtain ⟨m2, hm2⟩ : ∃ x, (m1 + v1) % 18446744073709551616 = x := ⟨_, rfl⟩
          obtain ⟨P, hP⟩ : ∃ x, Q1 * Y = x := ⟨_, rfl⟩
          obtain ⟨m3, hm3⟩ : ∃ x, P % 18446744073709551616 = x := ⟨_, rfl⟩
          obtain ⟨u2, hu2⟩ : ∃ x, dgR u v1 Y = x := ⟨_, rfl⟩
          have hu2l : u2 < Y := by rw [← hu2]; exact Nat.mod_lt _ (by omega)
          have hdm : u * 4294967296 + v1 = P + u2 := by
            have h := Nat.div_add_mod (u * 4294967296 + v1) Y
            rw [show (u * 4294967296 + v1) / Y = Q1 from HEX.out, show (u * 4294967296 + v1) % Y = u2 from hu2, Nat.mul_comm, hP] at h
            exact h.symm
          have f1 : IntKind.u64.wrap ((u : Int) * 4294967296) = (m1 : Int) := by rw [show (u : Int) * 4294967296 = ((u * 4294967296 : Nat) : Int) by simp, wrap_nat, hm1]
          have f2 : IntKind.u64.wrap ((m1 : Int) + (v1 : Int)) = (m2 : Int) := by rw [← Int.natCast_add, wrap_nat, hm2]
          have f3 : IntKind.u64.wrap ((Q1 : Int) * (Y : Int)) = (m3 : Int) := by rw [← Int.natCast_mul, wrap_nat, hP, hm3]
          have f4 : IntKind.u64.wrap ((m2 : Int) - (m3 : Int)) = (u2 : Int) := wrap_diff hm1.symm hm2.symm hm3.symm hdm (by omega)
          have Hu2 : Hid (dgR u v1 Y = u2) := hu2
          clear hm1 hm2 hm3 hP hu2 hdm
          obtain ⟨q2, hq2⟩ : ∃ q, u2 / y1 = q := ⟨_, rfl⟩
          obtain ⟨r2, hr2⟩ : ∃ r, u2 % y1 = r := ⟨_, rfl⟩
          obtain ⟨p2, hp2⟩ : ∃ p, q2 * y1 = p := ⟨_, rfl⟩
          have hdm := Nat.div_add_mod u2 y1
          rw [hq2, hr2, Nat.mul_comm, hp2] at hdm
          have kq : IntKind.u64.wrap ((u2 : Int) / (y1 : Int)) = (q2 : Int) := by rw [← Int.natCast_ediv, hq2, wrap_nat, Nat.mod_eq_of_lt (by have := Nat.div_le_self u2 y1; omega)]
          have kp : IntKind.u64.wrap ((q2 : Int) * (y1 : Int)) = (p2 : Int) := by rw [← hp2]; exact wrapm _ _ (by rw [hp2]; omega)
          have kr : IntKind.u64.wrap ((u2 : Int) - (p2 : Int)) = (r2 : Int) := by rw [wraps _ _ (by omega) (by omega)]; congr 1; omega
          have Hq2 : Hid (q2 * y1 + r2 = u2 ∧ dgQ u2 v2 Y ≤ q2 ∧ r2 < 4294967296) := by
            refine ⟨by omega, ?_, by have := Nat.mod_lt u2 (show 0 < y1 by omega); omega⟩
            have h := dg_start (u := u2) (v := v2) HYE.out (by omega) (by omega)
            rw [hq2] at h
            exact h
          have HLq2 : Hid (q2 ≤ 17179869184) := by
            show _ ≤ _
            rcases Nat.lt_or_ge 17179869184 q2 with h | h
            · have := Nat.mul_le_mul (show 17179869185 ≤ q2 from h) hy1l
              omega
            · exact h
          clear hq2 hr2 hp2 hdm
          go_wp2_with fail
          clear f1 f2 f3 f4 kq kp kr
          go_loop [18, 16] (fun a b => ∃ q r : Nat, a = .int .u64 (q : Int) ∧ b = .int .u64 (r : Int) ∧ Hid (q * y1 + r = u2 ∧ dgQ u2 v2 Y ≤ q ∧ r < 4294967296 ∧ q ≤ 17179869184)) (fun _ b => 4294967296 - (intOf b).toNat)
          case atStart => exact ⟨q2, r2, rfl, rfl, ⟨Hq2.out.1, Hq2.out.2.1, Hq2.out.2.2, HLq2.out⟩⟩
          case round =>
            obtain ⟨q, r, rfl, rfl, HQ⟩ := hrel
            have hr := HQ.out.2.2.1
            have hq := HQ.out.2.2.2
            by_cases hqb : 4294967296 ≤ q
            · have hqi : (4294967296 : Int) ≤ (q : Int) := by omega
              have hqd : decide ((4294967296 : Int) ≤ (q : Int)) = true := by simp; omega
              have HGR := Lib.hid (dg_great HYE.out HQ.out.1 hu2l (by omega) (Or.inl hqb) : dgQ u2 v2 Y < q)
              have d1 : IntKind.u64.wrap ((q : Int) - 1) = ((q - 1 : Nat) : Int) := by have := HGR.out; rw [show (q : Int) - 1 = ((q - 1 : Nat) : Int) by omega, wrap_nat, Nat.mod_eq_of_lt (by omega)]
              have d2 : IntKind.u64.wrap ((r : Int) + (y1 : Int)) = ((r + y1 : Nat) : Int) := wrapa _ _ (by omega)
              have HE : Hid ((q - 1) * y1 + (r + y1) = u2 ∧ dgQ u2 v2 Y ≤ q - 1 ∧ q - 1 ≤ 17179869184) := by
                have h := HGR.out
                refine ⟨?_, by omega, by omega⟩
                have h1 := HQ.out.1
                rw [← h1, Nat.sub_mul, Nat.one_mul]
                have : y1 ≤ q * y1 := Nat.le_mul_of_pos_left _ (by omega)
                omega
              obtain ⟨qn, hqn⟩ : ∃ x, q - 1 = x := ⟨_, rfl⟩
              obtain ⟨rn, hrn⟩ : ∃ x, r + y1 = x := ⟨_, rfl⟩
              have HRN : Hid (r < rn) := by show _ < _; omega
              rw [hqn] at d1 HE
              rw [hrn] at d2 HE
              clear hqn hrn
              by_cases hb : 4294967296 ≤ rn
              · have hbi : (4294967296 : Int) ≤ (rn : Int) := by omega
                have HEX := Lib.hid (dg_right HYE.out (by omega) HE.out.1 HE.out.2.1 (dg_rest HYE.out (by omega) (by omega) HE.out.1 (by assumption) hb) : dgQ u2 v2 Y = qn)
                clear hb
                obtain ⟨Q2, hQ2⟩ : ∃ Q2, Q2 = qn := ⟨_, rfl⟩
                subst hQ2
                obtain ⟨m1, hm1⟩ : ∃ x, u2 * 4294967296 % 18446744073709551616 = x := ⟨_, rfl⟩
                obtain ⟨m2, hm2⟩ : ∃ x, (m1 + v2) % 18446744073709551616 = x := ⟨_, rfl⟩
                obtain ⟨P, hP⟩ : ∃ x, Q2 * Y = x := ⟨_, rfl⟩
                obtain ⟨m3, hm3⟩ : ∃ x, P % 18446744073709551616 = x := ⟨_, rfl⟩
                obtain ⟨R2, hR2⟩ : ∃ x, dgR u2 v2 Y = x := ⟨_, rfl⟩
                have hR2l : R2 < Y := by rw [← hR2]; exact Nat.mod_lt _ (by omega)
                have hdm : u2 * 4294967296 + v2 = P + R2 := by
                  have h := Nat.div_add_mod (u2 * 4294967296 + v2) Y
                  rw [show (u2 * 4294967296 + v2) / Y = Q2 from HEX.out, show (u2 * 4294967296 + v2) % Y = R2 from hR2, Nat.mul_comm, hP] at h
                  exact h.symm
                have f1 : IntKind.u64.wrap ((u2 : Int) * 4294967296) = (m1 : Int) := by rw [show (u2 : Int) * 4294967296 = ((u2 * 4294967296 : Nat) : Int) by simp, wrap_nat, hm1]
                have f2 : IntKind.u64.wrap ((m1 : Int) + (v2 : Int)) = (m2 : Int) := by rw [← Int.natCast_add, wrap_nat, hm2]
                have f3 : IntKind.u64.wrap ((Q2 : Int) * (Y : Int)) = (m3 : Int) := by rw [← Int.natCast_mul, wrap_nat, hP, hm3]
                have f4 : IntKind.u64.wrap ((m2 : Int) - (m3 : Int)) = (R2 : Int) := wrap_diff hm1.symm hm2.symm hm3.symm hdm (by omega)
                have HR2 : Hid (dgR u2 v2 Y = R2) := hR2
                clear hm1 hm2 hm3 hP hR2 hdm
                have fS : IntKind.u64.wrap (S : Int) = (S : Int) := IntWalk.u64_in _ (by have := HS64.out; omega)
                have fm : min S 64 = S := by have := HS64.out; omega
                have htwo := dg_two (N := M) (Y := Y) HN3.out (by omega)
                rw [HU.out, HV1.out, HV2.out, HEX1.out, Hu2.out, HEX.out, HR2.out, ← HM.out, ← HY.out, Nat.mul_div_mul_right _ _ HSP.out, Nat.mul_mod_mul_right] at htwo
                obtain ⟨t1, t2⟩ := htwo
                have hq1 := dgQ_lt (u := u) (v := v1) huY (by omega)
                have hq2 := dgQ_lt (u := u2) (v := v2) hu2l (by omega)
                rw [HEX1.out] at hq1
                rw [HEX.out] at hq2
                obtain ⟨n1, hn1⟩ : ∃ x, Q1 * 4294967296 = x := ⟨_, rfl⟩
                rw [hn1] at t1
                have g1 : IntKind.u64.wrap ((Q1 : Int) * 4294967296) = (n1 : Int) := by rw [show (Q1 : Int) * 4294967296 = ((Q1 * 4294967296 : Nat) : Int) by simp, wrap_nat, hn1, Nat.mod_eq_of_lt (by omega)]
                have g2 : IntKind.u64.wrap ((n1 : Int) + (Q2 : Int)) = ((N / y : Nat) : Int) := by rw [wrapa _ _ (by omega), t1]
                have g3 : (R2 : Int) / 2 ^ S = ((N % y : Nat) : Int) := by
                  rw [t2, show (2 : Int) ^ S = ((2 ^ S : Nat) : Int) by simp, ← Int.natCast_ediv, Nat.mul_div_cancel _ HSP.out]
                obtain ⟨QQ, hQQ⟩ : ∃ x, N / y = x := ⟨_, rfl⟩
                obtain ⟨RR, hRR⟩ : ∃ x, N % y = x := ⟨_, rfl⟩
                rw [hQQ] at g2
                rw [hRR] at g3
                have HQQ := Lib.hid hQQ
                have HRR := Lib.hid hRR
                have HQI : Hid ((N : Int) / (y : Int) = (QQ : Int)) := by show _ = _; rw [← Int.natCast_ediv, hQQ]
                have HRI : Hid ((N : Int) % (y : Int) = (RR : Int)) := by show _ = _; rw [← Int.natCast_emod, hRR]
                clear t1 t2 hn1 hQQ hRR hq1 hq2
                go_wp2_with fail
                go_ret2
                exact ⟨by first | (rw [HQQ.out, HRR.out]; rfl) | (rw [HQI.out, HRI.out]; rfl), 0, rfl⟩
              · have hbd : decide ((4294967296 : Int) ≤ (rn : Int)) = false := decide_eq_false (by omega)
                have hbd' : decide (4294967296 ≤ rn) = false := decide_eq_false hb
                have HB := Lib.hid hb
                clear hb
                go_wp2_with fail
                refine ⟨⟨qn, rn, rfl, rfl, ⟨HE.out.1, HE.out.2.1, by have := HB.out; omega, HE.out.2.2⟩⟩, ?_⟩
                have := HB.out
                have := HRN.out
                simp [intOf]
                omega
            · have hqd : decide ((4294967296 : Int) ≤ (q : Int)) = false := decide_eq_false (by omega)
              have hqd' : decide (4294967296 ≤ q) = false := decide_eq_false hqb
              obtain ⟨qy, hqy⟩ : ∃ x, q * y2 = x := ⟨_, rfl⟩
              obtain ⟨rb, hrb⟩ : ∃ x, 4294967296 * r = x := ⟨_, rfl⟩
              have hqyl : qy < 18446744073709551616 := by
                rw [← hqy]
                have := Nat.mul_le_mul (show q ≤ 4294967295 by omega) (show y2 ≤ 4294967295 by omega)
                omega
              have w1 : IntKind.u64.wrap ((q : Int) * (y2 : Int)) = (qy : Int) := by rw [wrapm _ _ (by rw [hqy]; exact hqyl), hqy]
              have w2 : IntKind.u64.wrap (4294967296 * (r : Int)) = (rb : Int) := by rw [show (4294967296 : Int) * (r : Int) = ((4294967296 * r : Nat) : Int) by simp, wrap_nat, hrb, Nat.mod_eq_of_lt (by omega)]
              have w3 : IntKind.u64.wrap ((rb : Int) + (v2 : Int)) = ((rb + v2 : Nat) : Int) := wrapa _ _ (by omega)
              have HC : Hid (r * 4294967296 + v2 = rb + v2 ∧ q * y2 = qy) := ⟨by omega, hqy⟩
              obtain ⟨rv, hrv⟩ : ∃ x, rb + v2 = x := ⟨_, rfl⟩
              rw [hrv] at w3 HC
              clear hqy hrb hrv
              by_cases hc : rv < qy
              · have hci : (rv : Int) < (qy : Int) := by omega
                have HGR := Lib.hid (dg_great HYE.out HQ.out.1 hu2l (by omega) (Or.inr (by have := HC.out; omega)) : dgQ u2 v2 Y < q)
                clear hqb hc
                have d1 : IntKind.u64.wrap ((q : Int) - 1) = ((q - 1 : Nat) : Int) := by have := HGR.out; rw [show (q : Int) - 1 = ((q - 1 : Nat) : Int) by omega, wrap_nat, Nat.mod_eq_of_lt (by omega)]
                have d2 : IntKind.u64.wrap ((r : Int) + (y1 : Int)) = ((r + y1 : Nat) : Int) := wrapa _ _ (by omega)
                have HE : Hid ((q - 1) * y1 + (r + y1) = u2 ∧ dgQ u2 v2 Y ≤ q - 1 ∧ q - 1 ≤ 17179869184) := by
                  have h := HGR.out
                  refine ⟨?_, by omega, by omega⟩
                  have h1 := HQ.out.1
                  rw [← h1, Nat.sub_mul, Nat.one_mul]
                  have : y1 ≤ q * y1 := Nat.le_mul_of_pos_left _ (by omega)
                  omega
                obtain ⟨qn, hqn⟩ : ∃ x, q - 1 = x := ⟨_, rfl⟩
                obtain ⟨rn, hrn⟩ : ∃ x, r + y1 = x := ⟨_, rfl⟩
                have HRN : Hid (r < rn) := by show _ < _; omega
                rw [hqn] at d1 HE
                rw [hrn] at d2 HE
                clear hqn hrn
                by_cases hb : 4294967296 ≤ rn
                · have hbi : (4294967296 : Int) ≤ (rn : Int) := by omega
                  have HEX := Lib.hid (dg_right HYE.out (by omega) HE.out.1 HE.out.2.1 (dg_rest HYE.out (by omega) (by omega) HE.out.1 (by assumption) hb) : dgQ u2 v2 Y = qn)
                  clear hb
                  obtain ⟨Q2, hQ2⟩ : ∃ Q2, Q2 = qn := ⟨_, rfl⟩
                  subst hQ2
                  obtain ⟨m1, hm1⟩ : ∃ x, u2 * 4294967296 % 18446744073709551616 = x := ⟨_, rfl⟩
                  obtain ⟨m2, hm2⟩ : ∃ x, (m1 + v2) % 18446744073709551616 = x := ⟨_, rfl⟩
                  obtain ⟨P, hP⟩ : ∃ x, Q2 * Y = x := ⟨_, rfl⟩
                  obtain ⟨m3, hm3⟩ : ∃ x, P % 18446744073709551616 = x := ⟨_, rfl⟩
                  obtain ⟨R2, hR2⟩ : ∃ x, dgR u2 v2 Y = x := ⟨_, rfl⟩
                  have hR2l : R2 < Y := by rw [← hR2]; exact Nat.mod_lt _ (by omega)
                  have hdm : u2 * 4294967296 + v2 = P + R2 := by
                    have h := Nat.div_add_mod (u2 * 4294967296 + v2) Y
                    rw [show (u2 * 4294967296 + v2) / Y = Q2 from HEX.out, show (u2 * 4294967296 + v2) % Y = R2 from hR2, Nat.mul_comm, hP] at h
                    exact h.symm
                  have f1 : IntKind.u64.wrap ((u2 : Int) * 4294967296) = (m1 : Int) := by rw [show (u2 : Int) * 4294967296 = ((u2 * 4294967296 : Nat) : Int) by simp, wrap_nat, hm1]
                  have f2 : IntKind.u64.wrap ((m1 : Int) + (v2 : Int)) = (m2 : Int) := by rw [← Int.natCast_add, wrap_nat, hm2]
                  have f3 : IntKind.u64.wrap ((Q2 : Int) * (Y : Int)) = (m3 : Int) := by rw [← Int.natCast_mul, wrap_nat, hP, hm3]
                  have f4 : IntKind.u64.wrap ((m2 : Int) - (m3 : Int)) = (R2 : Int) := wrap_diff hm1.symm hm2.symm hm3.symm hdm (by omega)
                  have HR2 : Hid (dgR u2 v2 Y = R2) := hR2
                  clear hm1 hm2 hm3 hP hR2 hdm
                  have fS : IntKind.u64.wrap (S : Int) = (S : Int) := IntWalk.u64_in _ (by have := HS64.out; omega)
                  have fm : min S 64 = S := by have := HS64.out; omega
                  have htwo := dg_two (N := M) (Y := Y) HN3.out (by omega)
                  rw [HU.out, HV1.out, HV2.out, HEX1.out, Hu2.out, HEX.out, HR2.out, ← HM.out, ← HY.out, Nat.mul_div_mul_right _ _ HSP.out, Nat.mul_mod_mul_right] at htwo
                  obtain ⟨t1, t2⟩ := htwo
                  have hq1 := dgQ_lt (u := u) (v := v1) huY (by omega)
                  have hq2 := dgQ_lt (u := u2) (v := v2) hu2l (by omega)
                  rw [HEX1.out] at hq1
                  rw [HEX.out] at hq2
                  obtain ⟨n1, hn1⟩ : ∃ x, Q1 * 4294967296 = x := ⟨_, rfl⟩
                  rw [hn1] at t1
                  have g1 : IntKind.u64.wrap ((Q1 : Int) * 4294967296) = (n1 : Int) := by rw [show (Q1 : Int) * 4294967296 = ((Q1 * 4294967296 : Nat) : Int) by simp, wrap_nat, hn1, Nat.mod_eq_of_lt (by omega)]
                  have g2 : IntKind.u64.wrap ((n1 : Int) + (Q2 : Int)) = ((N / y : Nat) : Int) := by rw [wrapa _ _ (by omega), t1]
                  have g3 : (R2 : Int) / 2 ^ S = ((N % y : Nat) : Int) := by
                    rw [t2, show (2 : Int) ^ S = ((2 ^ S : Nat) : Int) by simp, ← Int.natCast_ediv, Nat.mul_div_cancel _ HSP.out]
                  obtain ⟨QQ, hQQ⟩ : ∃ x, N / y = x := ⟨_, rfl⟩
                  obtain ⟨RR, hRR⟩ : ∃ x, N % y = x := ⟨_, rfl⟩
                  rw [hQQ] at g2
                  rw [hRR] at g3
                  have HQQ := Lib.hid hQQ
                  have HRR := Lib.hid hRR
                  have HQI : Hid ((N : Int) / (y : Int) = (QQ : Int)) := by show _ = _; rw [← Int.natCast_ediv, hQQ]
                  have HRI : Hid ((N : Int) % (y : Int) = (RR : Int)) := by show _ = _; rw [← Int.natCast_emod, hRR]
                  clear t1 t2 hn1 hQQ hRR hq1 hq2
                  go_wp2_with fail
                  go_ret2
                  exact ⟨by first | (rw [HQQ.out, HRR.out]; rfl) | (rw [HQI.out, HRI.out]; rfl), 0, rfl⟩
                · have hbd : decide ((4294967296 : Int) ≤ (rn : Int)) = false := decide_eq_false (by omega)
                  have hbd' : decide (4294967296 ≤ rn) = false := decide_eq_false hb
                  have HB := Lib.hid hb
                  clear hb
                  go_wp2_with fail
                  refine ⟨⟨qn, rn, rfl, rfl, ⟨HE.out.1, HE.out.2.1, by have := HB.out; omega, HE.out.2.2⟩⟩, ?_⟩
                  have := HB.out
                  have := HRN.out
                  simp [intOf]
                  omega
              · have hci : decide ((rv : Int) < (qy : Int)) = false := decide_eq_false (by omega)
                have hci' : decide (rv < qy) = false := decide_eq_false hc
                have HEX := Lib.hid (dg_right HYE.out (by omega) HQ.out.1 HQ.out.2.1 (by have := HC.out; omega) : dgQ u2 v2 Y = q)
                clear hqb hc
                obtain ⟨Q2, hQ2⟩ : ∃ Q2, Q2 = q := ⟨_, rfl⟩
                subst hQ2
                obtain ⟨m1, hm1⟩ : ∃ x, u2 * 4294967296 % 18446744073709551616 = x := ⟨_, rfl⟩
                obtain ⟨m2, hm2⟩ : ∃ x, (m1 + v2) % 18446744073709551616 = x := ⟨_, rfl⟩
                obtain ⟨P, hP⟩ : ∃ x, Q2 * Y = x := ⟨_, rfl⟩
                obtain ⟨m3, hm3⟩ : ∃ x, P % 18446744073709551616 = x := ⟨_, rfl⟩
                obtain ⟨R2, hR2⟩ : ∃ x, dgR u2 v2 Y = x := ⟨_, rfl⟩
                have hR2l : R2 < Y := by rw [← hR2]; exact Nat.mod_lt _ (by omega)
                have hdm : u2 * 4294967296 + v2 = P + R2 := by
                  have h := Nat.div_add_mod (u2 * 4294967296 + v2) Y
                  rw [show (u2 * 4294967296 + v2) / Y = Q2 from HEX.out, show (u2 * 4294967296 + v2) % Y = R2 from hR2, Nat.mul_comm, hP] at h
                  exact h.symm
                have f1 : IntKind.u64.wrap ((u2 : Int) * 4294967296) = (m1 : Int) := by rw [show (u2 : Int) * 4294967296 = ((u2 * 4294967296 : Nat) : Int) by simp, wrap_nat, hm1]
                have f2 : IntKind.u64.wrap ((m1 : Int) + (v2 : Int)) = (m2 : Int) := by rw [← Int.natCast_add, wrap_nat, hm2]
                have f3 : IntKind.u64.wrap ((Q2 : Int) * (Y : Int)) = (m3 : Int) := by rw [← Int.natCast_mul, wrap_nat, hP, hm3]
                have f4 : IntKind.u64.wrap ((m2 : Int) - (m3 : Int)) = (R2 : Int) := wrap_diff hm1.symm hm2.symm hm3.symm hdm (by omega)
                have HR2 : Hid (dgR u2 v2 Y = R2) := hR2
                clear hm1 hm2 hm3 hP hR2 hdm
                have fS : IntKind.u64.wrap (S : Int) = (S : Int) := IntWalk.u64_in _ (by have := HS64.out; omega)
                have fm : min S 64 = S := by have := HS64.out; omega
                have htwo := dg_two (N := M) (Y := Y) HN3.out (by omega)
                rw [HU.out, HV1.out, HV2.out, HEX1.out, Hu2.out, HEX.out, HR2.out, ← HM.out, ← HY.out, Nat.mul_div_mul_right _ _ HSP.out, Nat.mul_mod_mul_right] at htwo
                obtain ⟨t1, t2⟩ := htwo
                have hq1 := dgQ_lt (u := u) (v := v1) huY (by omega)
                have hq2 := dgQ_lt (u := u2) (v := v2) hu2l (by omega)
                rw [HEX1.out] at hq1
                rw [HEX.out] at hq2
                obtain ⟨n1, hn1⟩ : ∃ x, Q1 * 4294967296 = x := ⟨_, rfl⟩
                rw [hn1] at t1
                have g1 : IntKind.u64.wrap ((Q1 : Int) * 4294967296) = (n1 : Int) := by rw [show (Q1 : Int) * 4294967296 = ((Q1 * 4294967296 : Nat) : Int) by simp, wrap_nat, hn1, Nat.mod_eq_of_lt (by omega)]
                have g2 : IntKind.u64.wrap ((n1 : Int) + (Q2 : Int)) = ((N / y : Nat) : Int) := by rw [wrapa _ _ (by omega), t1]
                have g3 : (R2 : Int) / 2 ^ S = ((N % y : Nat) : Int) := by
                  rw [t2, show (2 : Int) ^ S = ((2 ^ S : Nat) : Int) by simp, ← Int.natCast_ediv, Nat.mul_div_cancel _ HSP.out]
                obtain ⟨QQ, hQQ⟩ : ∃ x, N / y = x := ⟨_, rfl⟩
                obtain ⟨RR, hRR⟩ : ∃ x, N % y = x := ⟨_, rfl⟩
                rw [hQQ] at g2
                rw [hRR] at g3
                have HQQ := Lib.hid hQQ
                have HRR := Lib.hid hRR
                have HQI : Hid ((N : Int) / (y : Int) = (QQ : Int)) := by show _ = _; rw [← Int.natCast_ediv, hQQ]
                have HRI : Hid ((N : Int) % (y : Int) = (RR : Int)) := by show _ = _; rw [← Int.natCast_emod, hRR]
                clear t1 t2 hn1 hQQ hRR hq1 hq2
                go_wp2_with fail
                go_ret2
                exact ⟨by first | (rw [HQQ.out, HRR.out]; rfl) | (rw [HQI.out, HRI.out]; rfl), 0, rfl⟩

end Go.Proofs.Ytncodoaphfeefaa
