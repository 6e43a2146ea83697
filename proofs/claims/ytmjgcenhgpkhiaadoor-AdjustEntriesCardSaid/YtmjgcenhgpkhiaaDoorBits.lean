/- Bits of natural numbers: how long they are, and what the schoolbook sum, difference and order of bits come to. Plain: no program. -/
import Derived.Test.YtmjgcenhgpkhiaaDoorBase
namespace Go.Proofs.YtmjgcenhgpkhiaaDoor
set_option linter.unusedVariables false
set_option linter.unusedSimpArgs false

/-- How many bits a number has. -/
def blen (n : Nat) : Nat := if n = 0 then 0 else n.log2 + 1
/-- A bit of a number. -/
def bitAt (n i : Nat) : Int := ((n / 2 ^ i % 2 : Nat) : Int)

theorem pow_pos2 (i : Nat) : 0 < 2 ^ i := Nat.pow_pos (by omega)
theorem lt_blen {n i : Nat} : i < blen n ↔ 2 ^ i ≤ n := by
  unfold blen
  by_cases h : n = 0
  · subst h; have := pow_pos2 i; simp
  · rw [if_neg h, Nat.lt_succ_iff, Nat.le_log2 h]
theorem blen_le {n i : Nat} : blen n ≤ i ↔ n < 2 ^ i := by
  rw [← Nat.not_lt, lt_blen, Nat.not_le]
theorem blen_zero : blen 0 = 0 := rfl
theorem blen_eq_zero {n : Nat} : blen n = 0 ↔ n = 0 := by
  have := blen_le (n := n) (i := 0)
  simp at this
  omega
theorem blen_mono {m n : Nat} (h : m ≤ n) : blen m ≤ blen n := blen_le.2 (Nat.lt_of_le_of_lt h (blen_le.1 (Nat.le_refl _)))
theorem blen_eq {n i : Nat} (h1 : n < 2 ^ i) (h2 : i = 0 ∨ 2 ^ (i - 1) ≤ n) : blen n = i := by
  have a := blen_le.2 h1
  rcases h2 with h2 | h2
  · omega
  · have := lt_blen.2 h2; omega

theorem bitAt_range (n i : Nat) : 0 ≤ bitAt n i ∧ bitAt n i ≤ 1 := by unfold bitAt; omega
theorem bitAt_high {n i : Nat} (h : blen n ≤ i) : bitAt n i = 0 := by
  unfold bitAt
  rw [Nat.div_eq_of_lt (blen_le.1 h)]
  rfl
theorem bitAt_top {n : Nat} (h : 0 < n) : bitAt n (blen n - 1) = 1 := by
  have h0 : 0 < blen n := by have := @blen_eq_zero n; omega
  have h1 : 2 ^ (blen n - 1) ≤ n := lt_blen.1 (by omega)
  have h2 : n < 2 ^ blen n := blen_le.1 (Nat.le_refl _)
  have h3 : 2 ^ blen n = 2 * 2 ^ (blen n - 1) := by
    rw [show blen n = (blen n - 1) + 1 from by omega, Nat.pow_succ]; simp; omega
  unfold bitAt
  have h4 : n / 2 ^ (blen n - 1) = 1 := by
    apply Nat.div_eq_of_lt_le <;> omega
  rw [h4]; rfl

/-- What is carried into place k. -/
def carry (x y k : Nat) : Nat := (x % 2 ^ k + y % 2 ^ k) / 2 ^ k
theorem carry_zero (x y : Nat) : carry x y 0 = 0 := by simp [carry, Nat.mod_one]
theorem carry_le (x y k : Nat) : carry x y k ≤ 1 := by
  unfold carry
  have h := pow_pos2 k
  have a := Nat.mod_lt x h
  have b := Nat.mod_lt y h
  have : (x % 2 ^ k + y % 2 ^ k) / 2 ^ k < 2 := Nat.div_lt_of_lt_mul (by omega)
  omega
theorem mod_succ (x k : Nat) : x % 2 ^ (k + 1) = 2 ^ k * (x / 2 ^ k % 2) + x % 2 ^ k := by
  rw [Nat.pow_succ, Nat.mod_mul]; omega
theorem carry_succ (x y k : Nat) : carry x y (k + 1) = (x / 2 ^ k % 2 + y / 2 ^ k % 2 + carry x y k) / 2 := by
  unfold carry
  rw [mod_succ x k, mod_succ y k]
  have h := pow_pos2 k
  rw [show 2 ^ k * (x / 2 ^ k % 2) + x % 2 ^ k + (2 ^ k * (y / 2 ^ k % 2) + y % 2 ^ k) = (x % 2 ^ k + y % 2 ^ k) + 2 ^ k * (x / 2 ^ k % 2 + y / 2 ^ k % 2) from by rw [Nat.mul_add]; omega]
  rw [Nat.pow_succ, ← Nat.div_div_eq_div_mul, Nat.add_mul_div_left _ _ h]
  congr 1; omega
theorem add_div_pow (x y k : Nat) : (x + y) / 2 ^ k = x / 2 ^ k + y / 2 ^ k + carry x y k := by
  have h := pow_pos2 k
  have a := Nat.div_add_mod x (2 ^ k)
  have b := Nat.div_add_mod y (2 ^ k)
  unfold carry
  rw [show x + y = (x % 2 ^ k + y % 2 ^ k) + 2 ^ k * (x / 2 ^ k + y / 2 ^ k) from by rw [Nat.mul_add]; omega]
  rw [Nat.add_mul_div_left _ _ h]; omega

/-- One place of the schoolbook sum. -/
theorem plus_bit (x y k : Nat) : (bitAt x k + bitAt y k + (carry x y k : Int)) % 2 = bitAt (x + y) k ∧ (bitAt x k + bitAt y k + (carry x y k : Int)) / 2 = (carry x y (k + 1) : Int) := by
  unfold bitAt
  rw [carry_succ, add_div_pow]
  omega
theorem plus_end {x y k : Nat} (h1 : blen x ≤ k) (h2 : blen y ≤ k) (h3 : carry x y k = 0) : x + y < 2 ^ k := by
  have a := blen_le.1 h1
  have b := blen_le.1 h2
  have h := pow_pos2 k
  unfold carry at h3
  rw [Nat.mod_eq_of_lt a, Nat.mod_eq_of_lt b] at h3
  exact (Nat.div_eq_zero_iff_lt h).1 h3
theorem plus_more {x y k : Nat} (h : k < blen x ∨ k < blen y ∨ 0 < carry x y k) : 2 ^ k ≤ x + y := by
  rcases h with h | h | h
  · have := lt_blen.1 h; omega
  · have := lt_blen.1 h; omega
  · unfold carry at h
    have h0 := pow_pos2 k
    have h1 : 2 ^ k ≤ x % 2 ^ k + y % 2 ^ k := by
      rcases Nat.lt_or_ge (x % 2 ^ k + y % 2 ^ k) (2 ^ k) with h2 | h2
      · rw [Nat.div_eq_of_lt h2] at h; omega
      · exact h2
    have := Nat.mod_le x (2 ^ k)
    have := Nat.mod_le y (2 ^ k)
    omega
theorem carry_high {x y k : Nat} (h1 : blen x ≤ k) (h2 : blen y ≤ k) : carry x y (k + 1) = 0 := by
  have a := blen_le.1 h1
  have b := blen_le.1 h2
  have e : 2 ^ (k + 1) = 2 * 2 ^ k := by rw [Nat.pow_succ]; omega
  unfold carry
  rw [Nat.mod_eq_of_lt (by omega), Nat.mod_eq_of_lt (by omega)]
  exact Nat.div_eq_of_lt (by omega)

/-- What is borrowed from place k. -/
def borrow (x y k : Nat) : Nat := if x % 2 ^ k < y % 2 ^ k then 1 else 0
theorem borrow_zero (x y : Nat) : borrow x y 0 = 0 := by simp [borrow, Nat.mod_one]
theorem sub_div_pow (x y k : Nat) (h : y ≤ x) : (x - y) / 2 ^ k + y / 2 ^ k + borrow x y k = x / 2 ^ k := by
  have e := add_div_pow (x - y) y k
  rw [Nat.sub_add_cancel h] at e
  rw [e]
  congr 1
  unfold borrow carry
  have hp := pow_pos2 k
  have a := Nat.mod_lt (x - y) hp
  have b := Nat.mod_lt y hp
  have c : x % 2 ^ k = ((x - y) % 2 ^ k + y % 2 ^ k) % 2 ^ k := by
    rw [← Nat.add_mod, Nat.sub_add_cancel h]
  rcases Nat.lt_or_ge ((x - y) % 2 ^ k + y % 2 ^ k) (2 ^ k) with d | d
  · rw [Nat.div_eq_of_lt d, c, Nat.mod_eq_of_lt d, if_neg (by omega)]
  · have d1 : ((x - y) % 2 ^ k + y % 2 ^ k) / 2 ^ k = 1 := Nat.div_eq_of_lt_le (by omega) (by omega)
    rw [d1, c, Nat.mod_eq_sub_mod d, Nat.mod_eq_of_lt (by omega), if_pos (by omega)]
theorem borrow_succ (x y k : Nat) : borrow x y (k + 1) = if (x / 2 ^ k % 2 : Nat) < y / 2 ^ k % 2 + borrow x y k then 1 else 0 := by
  unfold borrow
  rw [mod_succ x k, mod_succ y k]
  have hp := pow_pos2 k
  have a := Nat.mod_lt x hp
  have b := Nat.mod_lt y hp
  rcases Nat.mod_two_eq_zero_or_one (x / 2 ^ k) with hx | hx <;> rcases Nat.mod_two_eq_zero_or_one (y / 2 ^ k) with hy | hy <;> rw [hx, hy] <;> split <;> split <;> split <;> omega
/-- One place of the schoolbook difference. -/
theorem minus_bit (x y k : Nat) (h : y ≤ x) :
    (bitAt x k - bitAt y k - (borrow x y k : Int) < 0 → bitAt x k - bitAt y k - (borrow x y k : Int) + 2 = bitAt (x - y) k ∧ (borrow x y (k + 1) : Int) = 1) ∧
    (¬ bitAt x k - bitAt y k - (borrow x y k : Int) < 0 → bitAt x k - bitAt y k - (borrow x y k : Int) = bitAt (x - y) k ∧ (borrow x y (k + 1) : Int) = 0) := by
  have e := sub_div_pow x y k h
  have s := borrow_succ x y k
  have bl : borrow x y k ≤ 1 := by unfold borrow; split <;> omega
  unfold bitAt
  constructor
  · intro h1
    rw [if_pos (by omega)] at s
    rw [s]
    omega
  · intro h1
    rw [if_neg (by omega)] at s
    rw [s]
    omega

/-- The order of two numbers. -/
def ordN (x y : Nat) : Int := if x < y then -1 else if y < x then 1 else 0

theorem half_pow (x k : Nat) : ((x / 2 ^ k : Nat) : Int) = 2 * ((x / 2 ^ (k + 1) : Nat) : Int) + bitAt x k := by
  unfold bitAt
  have : x / 2 ^ (k + 1) = x / 2 ^ k / 2 := by rw [Nat.pow_succ, Nat.div_div_eq_div_mul]
  rw [this]; omega
theorem lt_of_div_lt {x y p : Nat} (h : x / p < y / p) : x < y := by
  rcases Nat.lt_or_ge x y with g | g
  · exact g
  · have := Nat.div_le_div_right (c := p) g; omega
/-- The greatest place at which two numbers part tells their order. -/
theorem order_bit {x y k : Nat} (h : x / 2 ^ (k + 1) = y / 2 ^ (k + 1)) :
    (bitAt x k = bitAt y k → x / 2 ^ k = y / 2 ^ k) ∧ (bitAt x k ≠ bitAt y k → bitAt x k - bitAt y k = ordN x y) := by
  have a := half_pow x k
  have b := half_pow y k
  rw [h] at a
  have rx := bitAt_range x k
  have ry := bitAt_range y k
  refine ⟨fun e => by omega, fun e => ?_⟩
  unfold ordN
  rcases Int.lt_trichotomy (bitAt x k) (bitAt y k) with g | g | g
  · have : x < y := lt_of_div_lt (p := 2 ^ k) (by omega)
    rw [if_pos this]; omega
  · exact absurd g e
  · have : y < x := lt_of_div_lt (p := 2 ^ k) (by omega)
    rw [if_neg (by omega), if_pos this]; omega
theorem order_len {x y : Nat} (h : blen x < blen y) : x < y := by
  have a := blen_le.1 (Nat.le_refl (blen x))
  have b := lt_blen.1 h
  omega

/-- Does a number fit an int? -/
def fitsI (z : Int) : Bool := decide (-9223372036854775808 ≤ z ∧ z ≤ 9223372036854775807)

/-- The two words of a sum. -/
def lowS (z : Int) : Int := z % 18446744073709551616
def highS (z : Int) : Int := (z / 18446744073709551616) % 18446744073709551616
theorem lowS_range (z : Int) : 0 ≤ lowS z ∧ lowS z ≤ 18446744073709551615 := by unfold lowS; omega
theorem highS_range (z : Int) : 0 ≤ highS z ∧ highS z ≤ 18446744073709551615 := by unfold highS; omega
theorem low_step (z x : Int) : (lowS z + IntKind.u64.wrap x) % 18446744073709551616 = lowS (z + x) := by
  unfold lowS; rw [IntKind.wrap_u64]; omega
theorem high_step (z x : Int) (h1 : -9223372036854775808 ≤ x) (h2 : x ≤ 9223372036854775807) :
    IntKind.u64.wrap (highS z + IntKind.u64.wrap (IntKind.u64.wrap (x / 9223372036854775808) + (lowS z + IntKind.u64.wrap x) / 18446744073709551616)) = highS (z + x) := by
  unfold lowS highS
  simp only [IntKind.wrap_u64]
  obtain ⟨c, hc⟩ : ∃ c, (z % 18446744073709551616 + x % 18446744073709551616) / 18446744073709551616 = c := ⟨_, rfl⟩
  obtain ⟨d, hd⟩ : ∃ d, z / 18446744073709551616 = d := ⟨_, rfl⟩
  rcases (show (x / 9223372036854775808 = 0 ∧ (z + x) / 18446744073709551616 = d + c) ∨ (x / 9223372036854775808 = -1 ∧ (z + x) / 18446744073709551616 = d + c - 1) from by omega) with ⟨e1, e2⟩ | ⟨e1, e2⟩
  · rw [hc, hd, e1, e2]; clear hc hd e1 e2; omega
  · rw [hc, hd, e1, e2]; clear hc hd e1 e2; omega
theorem sum_fits (z : Int) (h1 : -9223372036854775808000000 ≤ z) (h2 : z ≤ 9223372036854775808000000) :
    (highS z == IntKind.u64.wrap (RowKit.wrap64 (lowS z) / 9223372036854775808)) = fitsI z := by
  have e : RowKit.wrap64 (lowS z) = if z % 18446744073709551616 < 9223372036854775808 then z % 18446744073709551616 else z % 18446744073709551616 - 18446744073709551616 := by
    unfold RowKit.wrap64 lowS; split <;> omega
  rw [e]
  unfold highS fitsI
  simp only [IntKind.wrap_u64]
  rw [Bool.eq_iff_iff, beq_iff_eq, decide_eq_true_iff]
  split <;> omega
theorem sum_value (z : Int) (h : fitsI z = true) : RowKit.wrap64 (lowS z) = z := by
  unfold fitsI at h
  rw [decide_eq_true_iff] at h
  unfold RowKit.wrap64 lowS; omega

end Go.Proofs.YtmjgcenhgpkhiaaDoor
