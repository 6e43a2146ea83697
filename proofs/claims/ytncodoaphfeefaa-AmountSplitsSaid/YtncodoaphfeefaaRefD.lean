/- The reference's numbers as bits (package chattelref01): Int. -/
import Derived.Test.YtncodoaphfeefaaRefB
namespace Go.Proofs.Ytncodoaphfeefaa
open Go.RowKit
set_option linter.unusedVariables false
set_option linter.unusedSimpArgs false


theorem pow63 : (2 : Nat) ^ 63 = 9223372036854775808 := by decide
theorem pow64 : (2 : Nat) ^ 64 = 18446744073709551616 := by decide
theorem pow62 : (2 : Nat) ^ 62 = 4611686018427387904 := by decide

theorem fits_long {z : Int} (h : 64 < blen z.natAbs) : fitsI z = false := by
  have := lt_blen.1 h
  rw [pow64] at this
  unfold fitsI
  rw [decide_eq_false_iff_not]; omega
theorem fits_odd {z : Int} {k : Nat} (h : blen z.natAbs = 64) (hk : k < 63) (hb : bitAt z.natAbs k ≠ 0) : fitsI z = false := by
  have h1 := lt_blen.1 (show 63 < blen z.natAbs by omega)
  rw [pow63] at h1
  unfold fitsI
  rw [decide_eq_false_iff_not]
  intro h2
  have h3 : z.natAbs = 2 ^ 63 := by rw [pow63]; omega
  rw [h3] at hb
  apply hb
  unfold bitAt
  have : (2 : Nat) ^ 63 / 2 ^ k % 2 = 0 := by
    rw [Nat.pow_div (by omega) (by omega), show 63 - k = (63 - k - 1) + 1 from by omega, Nat.pow_succ]
    omega
  rw [this]; rfl
theorem low_zero (N : Nat) : ∀ k, (∀ j, j < k → bitAt N j = 0) → N % 2 ^ k = 0
  | 0, _ => by simp [Nat.mod_one]
  | k + 1, h => by
    have h1 := low_zero N k (fun j hj => h j (by omega))
    have h2 := h k (by omega)
    unfold bitAt at h2
    rw [mod_succ, h1]
    have : N / 2 ^ k % 2 = 0 := by omega
    rw [this]; simp
theorem even_eq {z : Int} (h : blen z.natAbs = 64) (hb : ∀ j, j < 63 → bitAt z.natAbs j = 0) : z.natAbs = 2 ^ 63 := by
  have h1 := lt_blen.1 (show 63 < blen z.natAbs by omega)
  have h2 := blen_le.1 (show blen z.natAbs ≤ 64 by omega)
  have h3 := low_zero _ _ hb
  rw [pow64] at h2
  rw [pow63] at h1 h3 ⊢
  omega
theorem fits_pos {z : Int} (h : blen z.natAbs = 64) (hb : ∀ j, j < 63 → bitAt z.natAbs j = 0) (hz : ¬ z < 0) : fitsI z = false := by
  have := even_eq h hb
  rw [pow63] at this
  unfold fitsI
  rw [decide_eq_false_iff_not]; omega
theorem fits_neg {z : Int} (h : blen z.natAbs = 64) (hb : ∀ j, j < 63 → bitAt z.natAbs j = 0) (hz : z < 0) : fitsI z = true ∧ z.natAbs ≤ 2 ^ 63 := by
  have := even_eq h hb
  refine ⟨?_, by omega⟩
  rw [pow63] at this
  unfold fitsI
  rw [decide_eq_true_iff]; omega
theorem fits_short {z : Int} (h : blen z.natAbs < 64) : fitsI z = true ∧ z.natAbs ≤ 2 ^ 63 ∧ (¬ z < 0 → z.natAbs < 2 ^ 63) := by
  have := blen_le.1 (show blen z.natAbs ≤ 63 by omega)
  refine ⟨?_, by omega, fun _ => this⟩
  rw [pow63] at this
  unfold fitsI
  rw [decide_eq_true_iff]; omega

theorem half_le {N k : Nat} (h : N ≤ 2 ^ 63) : N / 2 ^ (k + 1) ≤ 4611686018427387904 := by
  have h1 : N / 2 ^ (k + 1) ≤ N / 2 := by
    rw [Nat.pow_succ, Nat.mul_comm, ← Nat.div_div_eq_div_mul]
    exact Nat.div_le_self _ _
  rw [pow63] at h
  omega


set_option maxHeartbeats 1000000 in
theorem int_no (z : Int) (s : Bool) (a : Option Addr) (l cap : Nat) (w : World) (h : BigAt w z s a l cap) (hf : fitsI z = false) :
    Calls Try.prog 16 #[.agg #[.bool s, .slice a l cap]] w fun e w' => e = .returned (.tuple #[.int .i64 0, .bool false]) ∧ Below w.heap.size w w' := by
  obtain ⟨hs, rfl, hc, hm, hr⟩ := h
  have hr2 := hr.after (w' := w.alloc (.cells #[.bool s, .slice a (blen z.natAbs) cap] 29)) ((Below.refl _ _).alloc (Nat.le_refl _) _)
  clear hr
  by_cases h1 : 64 < blen z.natAbs
  · clear hs hr2
    go_enter Try.func16, Try.ntmps16
    go_wp2_with fail
    go_ret2
    exact ⟨rfl, (Below.refl _ _).alloc (Nat.le_refl _) _⟩
  · have h2 : blen z.natAbs = 64 := by
      rcases Nat.lt_or_ge (blen z.natAbs) 64 with g | g
      · have := (fits_short g).1; rw [hf] at this; cases this
      · omega
    have H2 := Lib.hid h2
    have HS := Lib.hid hs
    have HF := Lib.hid hf
    have hgt : ((blen z.natAbs : Nat) : Int) ≤ 64 := by omega
    have heq : (((blen z.natAbs : Nat) : Int) == 64) = true := by rw [beq_iff_eq]; omega
    clear h2 hs hf h1
    go_enter Try.func16, Try.ntmps16
    go_wp2_with fail
    go_loop [4] (fun i => ∃ k : Nat, k ≤ 63 ∧ i = .int .i64 k ∧ ∀ j, j < k → bitAt z.natAbs j = 0) (fun i => 63 - (intOf i).toNat)
    case atStart => exact ⟨0, by omega, rfl, fun j hj => absurd hj (by omega)⟩
    case round =>
      obtain ⟨k, hk, rfl, hz⟩ := hrel
      have HZ := Lib.hid hz
      clear hz
      by_cases hlt : k < 63
      · have hl : 63 < blen z.natAbs := by have := H2.out; omega
        obtain ⟨b, o, rfl, hcell⟩ := hr2 (by omega)
        have c1 := hcell k (by omega)
        unfold bitV at c1
        have i0 : (0 : Int) ≤ (k : Int) := by omega
        have i1 : (k : Int) < ((blen z.natAbs : Nat) : Int) := by omega
        clear hcell
        by_cases hb : bitAt z.natAbs k = 0
        · have HB := Lib.hid hb
          have hbb : (bitAt z.natAbs k != 0) = false := by rw [bne_eq_false_iff_eq]; exact hb
          clear hb
          go_wp2_with fail
          go_round
          case rel => exact ⟨k + 1, by omega, by go_num, fun j hj => by
            rcases Nat.lt_or_ge j k with g | g
            · exact HZ.out j g
            · obtain rfl : j = k := by omega
              exact HB.out⟩
          case measure => simp [intOf]; omega
        · have hbb : (bitAt z.natAbs k != 0) = true := by rw [bne_iff_ne]; exact hb
          clear hb
          go_wp2_with fail
          go_ret2
          exact ⟨rfl, (Below.refl _ _).alloc (Nat.le_refl _) _⟩
      · obtain rfl : k = 63 := by omega
        have hsf : s = false := by
          have e := HS.out
          rw [e, decide_eq_false_iff_not]
          intro hz
          have := (fits_neg H2.out HZ.out hz).1
          rw [HF.out] at this; cases this
        subst hsf
        go_wp2_with fail
        go_ret2
        exact ⟨rfl, (Below.refl _ _).alloc (Nat.le_refl _) _⟩

theorem fits_bits {z : Int} (h : blen z.natAbs = 64) (hf : fitsI z = true) (k : Nat) (hk : k < 63) : bitAt z.natAbs k = 0 := by
  by_cases hb : bitAt z.natAbs k = 0
  · exact hb
  · have := fits_odd h hk hb; rw [hf] at this; cases this

set_option maxHeartbeats 1000000 in
theorem int_yes (z : Int) (s : Bool) (a : Option Addr) (l cap : Nat) (w : World) (h : BigAt w z s a l cap) (hf : fitsI z = true) :
    Calls Try.prog 16 #[.agg #[.bool s, .slice a l cap]] w fun e w' => e = .returned (.tuple #[.int .i64 z, .bool true]) ∧ Below w.heap.size w w' := by
  obtain ⟨hs, rfl, hc, hm, hr⟩ := h
  have hr2 := hr.after (w' := w.alloc (.cells #[.bool s, .slice a (blen z.natAbs) cap] 29)) ((Below.refl _ _).alloc (Nat.le_refl _) _)
  clear hr
  have HS := Lib.hid hs
  have h64 : blen z.natAbs ≤ 64 := by
    rcases Nat.lt_or_ge 64 (blen z.natAbs) with g | g
    · have := fits_long g; rw [hf] at this; cases this
    · exact g
  have hz63 : z.natAbs ≤ 2 ^ 63 ∧ (s = false → z.natAbs ≤ 9223372036854775807) := by
    rw [hs, pow63]
    have := hf
    unfold fitsI at this
    rw [decide_eq_true_iff] at this
    exact ⟨by omega, fun e => by rw [decide_eq_false_iff_not] at e; omega⟩
  have HN := Lib.hid hz63.1
  have HNs := Lib.hid hz63.2
  have HF := Lib.hid hf
  have HB : Hid (blen z.natAbs = 64 → ∀ k, k < 63 → bitAt z.natAbs k = 0) := fun e => fits_bits e hf
  obtain ⟨N, hN⟩ : ∃ N, z.natAbs = N := ⟨_, rfl⟩
  rw [hN] at hr2 h64 HN HNs HB ⊢
  have HNz := Lib.hid hN
  clear hs hf hz63 hN
  by_cases h1 : blen N < 64
  · have heq : (((blen N : Nat) : Int) == 64) = false := by rw [beq_eq_false_iff_ne]; omega
    go_enter Try.func16, Try.ntmps16
    go_wp2_with fail
    have hd0 : (0 : Int) ≤ ((blen N : Nat) : Int) := by omega
    go_loop [5, 6] (fun n i => ∃ k : Nat, k ≤ blen N ∧ i = .int .i64 ((k : Int) - 1) ∧ n = .int .i64 (-((N / 2 ^ k : Nat) : Int))) (fun _ i => (intOf i + 1).toNat)
    case atStart => exact ⟨blen N, Nat.le_refl _, rfl, by rw [Nat.div_eq_of_lt (blen_le.1 (Nat.le_refl _))]; rfl⟩
    case round =>
      obtain ⟨k, hk, rfl, rfl⟩ := hrel
      by_cases h0 : 0 < k
      · obtain ⟨b, o, rfl, hc⟩ := hr2 (by omega)
        have c1 := hc (k - 1) (by omega)
        unfold bitV at c1
        obtain ⟨m, hm⟩ : ∃ m, N / 2 ^ k = m := ⟨_, rfl⟩
        have hml : m ≤ 4611686018427387904 := by
          have := half_le (N := N) (k := k - 1) HN.out
          rw [Nat.sub_add_cancel h0, hm] at this
          exact this
        have HH := Lib.hid (half_pow N (k - 1))
        have hfit : -9223372036854775808 ≤ 2 * -(m : Int) - bitAt N (k - 1) := by
          have h1 := HH.out
          rw [Nat.sub_add_cancel h0, hm] at h1
          have h2 : N / 2 ^ (k - 1) ≤ N := Nat.div_le_self _ _
          have h3 := HN.out
          rw [pow63] at h3
          omega
        rw [hm]
        have HM := Lib.hid hm
        have rx := bitAt_range N (k - 1)
        obtain ⟨rx1, rx2⟩ := rx
        have i0 : (0 : Int) ≤ (k : Int) - 1 := by omega
        have i1 : (k : Int) - 1 < ((blen N : Nat) : Int) := by omega
        have i2 : ((k : Int) - 1).toNat = k - 1 := by omega
        clear hm hc
        go_wp2_with fail
        go_round
        case rel => exact ⟨k - 1, by omega, by congr 1; omega, by have := HH.out; rw [Nat.sub_add_cancel h0, HM.out] at this; rw [this]; congr 1; omega⟩
        case measure => simp [intOf]; omega
      · obtain rfl : k = 0 := by omega
        rw [show N / 2 ^ 0 = N from by simp]
        cases s
        · have HE : Hid ((N : Int) = z) := by have := HS.out; simp at this; exact (show (N : Int) = z by have := HNz.out; omega)
          have hN2 : (N : Int) ≤ 9223372036854775807 := by have := HNs.out rfl; omega
          have hN1 : (0 : Int) ≤ (N : Int) := by omega
          go_wp2_with fail
          go_ret2
          exact ⟨by rw [← HE.out]; rfl, (Below.refl _ _).alloc (Nat.le_refl _) _⟩
        · have HE : Hid (-(N : Int) = z) := by have := HS.out; simp at this; exact (show -(N : Int) = z by have := HNz.out; omega)
          go_wp2_with fail
          go_ret2
          exact ⟨by rw [← HE.out]; rfl, (Below.refl _ _).alloc (Nat.le_refl _) _⟩
  · have h2 : blen N = 64 := by omega
    have H2 := Lib.hid h2
    have heq : (((blen N : Nat) : Int) == 64) = true := by rw [beq_iff_eq]; omega
    have hgt : ((blen N : Nat) : Int) ≤ 64 := by omega
    have hst : Hid (s = true) := by
      cases s
      · exfalso
        have := HNs.out rfl
        have h3 := lt_blen.1 (show 63 < blen N by omega)
        rw [pow63] at h3
        omega
      · exact rfl
    clear h2 h1 h64
    go_enter Try.func16, Try.ntmps16
    go_wp2_with fail
    go_loop [4] (fun i => ∃ k : Nat, k ≤ 63 ∧ i = .int .i64 k) (fun i => 63 - (intOf i).toNat)
    case atStart => exact ⟨0, by omega, rfl⟩
    case round =>
      obtain ⟨k, hk, rfl⟩ := hrel
      by_cases hlt : k < 63
      · obtain ⟨b, o, rfl, hcell⟩ := hr2 (by have := H2.out; omega)
        have c1 := hcell k (by have := H2.out; omega)
        unfold bitV at c1
        rw [HB.out H2.out k hlt] at c1
        have i0 : (0 : Int) ≤ (k : Int) := by omega
        have i1 : (k : Int) < ((blen N : Nat) : Int) := by have := H2.out; omega
        clear hcell
        go_wp2_with fail
        go_round
        case rel => exact ⟨k + 1, by omega, by go_num⟩
        case measure => simp [intOf]; omega
      · obtain rfl : k = 63 := by omega
        obtain rfl := hst.out
        go_wp2_with fail
        have hd0 : (0 : Int) ≤ ((blen N : Nat) : Int) := by omega
        go_loop [5, 6] (fun n i => ∃ k : Nat, k ≤ blen N ∧ i = .int .i64 ((k : Int) - 1) ∧ n = .int .i64 (-((N / 2 ^ k : Nat) : Int))) (fun _ i => (intOf i + 1).toNat)
        case atStart => exact ⟨blen N, Nat.le_refl _, rfl, by rw [Nat.div_eq_of_lt (blen_le.1 (Nat.le_refl _))]; rfl⟩
        case round =>
          obtain ⟨k, hk, rfl, rfl⟩ := hrel
          by_cases h0 : 0 < k
          · obtain ⟨b, o, rfl, hc⟩ := hr2 (by omega)
            have c1 := hc (k - 1) (by omega)
            unfold bitV at c1
            obtain ⟨m, hm⟩ : ∃ m, N / 2 ^ k = m := ⟨_, rfl⟩
            have hml : m ≤ 4611686018427387904 := by
              have := half_le (N := N) (k := k - 1) HN.out
              rw [Nat.sub_add_cancel h0, hm] at this
              exact this
            have HH := Lib.hid (half_pow N (k - 1))
            have hfit : -9223372036854775808 ≤ 2 * -(m : Int) - bitAt N (k - 1) := by
              have h1 := HH.out
              rw [Nat.sub_add_cancel h0, hm] at h1
              have h2 : N / 2 ^ (k - 1) ≤ N := Nat.div_le_self _ _
              have h3 := HN.out
              rw [pow63] at h3
              omega
            rw [hm]
            have HM := Lib.hid hm
            have rx := bitAt_range N (k - 1)
            obtain ⟨rx1, rx2⟩ := rx
            have i0 : (0 : Int) ≤ (k : Int) - 1 := by omega
            have i1 : (k : Int) - 1 < ((blen N : Nat) : Int) := by omega
            have i2 : ((k : Int) - 1).toNat = k - 1 := by omega
            clear hm hc
            go_wp2_with fail
            go_round
            case rel => exact ⟨k - 1, by omega, by congr 1; omega, by have := HH.out; rw [Nat.sub_add_cancel h0, HM.out] at this; rw [this]; congr 1; omega⟩
            case measure => simp [intOf]; omega
          · obtain rfl : k = 0 := by omega
            rw [show N / 2 ^ 0 = N from by simp]
            have HE : Hid (-(N : Int) = z) := by have := HS.out; simp at this; exact (show -(N : Int) = z by have := HNz.out; omega)
            go_wp2_with fail
            go_ret2
            exact ⟨by rw [← HE.out]; rfl, (Below.refl _ _).alloc (Nat.le_refl _) _⟩

end Go.Proofs.Ytncodoaphfeefaa
