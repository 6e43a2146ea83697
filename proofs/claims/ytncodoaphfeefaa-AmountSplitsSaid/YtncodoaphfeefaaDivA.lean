/- math/bits.Div64 in numbers: a step of the long division by halves. Plain: no program. -/
import Derived.Test.YtncodoaphfeefaaBits
namespace Go.Proofs.Ytncodoaphfeefaa
set_option linter.unusedVariables false
set_option linter.unusedSimpArgs false

/-- A digit of a quotient. -/
def dgQ (u v Y : Nat) : Nat := (u * 4294967296 + v) / Y
def dgR (u v Y : Nat) : Nat := (u * 4294967296 + v) % Y
theorem dgQ_lt {u v Y : Nat} (hu : u < Y) (hv : v < 4294967296) : dgQ u v Y < 4294967296 := by
  unfold dgQ
  have h := Nat.mul_le_mul_right 4294967296 (show u + 1 ≤ Y from hu)
  exact Nat.div_lt_of_lt_mul (by omega)
theorem dg_mul {q y1 y0 Y : Nat} (hY : Y = y1 * 4294967296 + y0) : q * Y = q * y1 * 4294967296 + q * y0 := by
  rw [hY, Nat.mul_add, Nat.mul_assoc]
/-- A guess that is too great. -/
theorem dg_great {q r y1 y0 Y u v : Nat} (hY : Y = y1 * 4294967296 + y0) (h : q * y1 + r = u) (hu : u < Y) (hv : v < 4294967296) (hc : 4294967296 ≤ q ∨ r * 4294967296 + v < q * y0) : dgQ u v Y < q := by
  rcases hc with hc | hc
  · exact Nat.lt_of_lt_of_le (dgQ_lt hu hv) hc
  · unfold dgQ
    have e := dg_mul (q := q) hY
    have g : u * 4294967296 + v < q * Y := by
      rw [e]
      clear e hY hu hv
      generalize q * y1 = p at *
      generalize q * y0 = t at *
      subst h
      rw [Nat.add_mul, Nat.add_assoc]
      exact Nat.add_lt_add_left hc _
    rw [Nat.mul_comm q Y] at g
    exact Nat.div_lt_of_lt_mul g
/-- A guess that is not too great. -/
theorem dg_right {q r y1 y0 Y u v : Nat} (hY : Y = y1 * 4294967296 + y0) (hY0 : 0 < Y) (h : q * y1 + r = u) (hg : dgQ u v Y ≤ q) (hc : q * y0 ≤ r * 4294967296 + v) : dgQ u v Y = q := by
  refine Nat.le_antisymm hg ?_
  unfold dgQ
  rw [Nat.le_div_iff_mul_le hY0, dg_mul hY]
  omega
/-- A guess whose rest is great. -/
theorem dg_rest {q r y1 y0 Y u v : Nat} (hY : Y = y1 * 4294967296 + y0) (hy0 : y0 < 4294967296) (hy1 : 0 < y1) (h : q * y1 + r = u) (hu : u < Y) (hr : 4294967296 ≤ r) : q * y0 ≤ r * 4294967296 + v := by
  have h1 : q * y1 < 4294967296 * y1 := by omega
  have h2 : q < 4294967296 := Nat.lt_of_mul_lt_mul_right h1
  have h3 : q * y0 ≤ 4294967296 * y0 := Nat.mul_le_mul_right _ (by omega)
  have h4 : 4294967296 * y0 ≤ 4294967296 * 4294967296 := Nat.mul_le_mul_left _ (by omega)
  omega
/-- The first guess. -/
theorem dg_start {y1 y0 Y u v : Nat} (hY : Y = y1 * 4294967296 + y0) (hy1 : 0 < y1) (hv : v < 4294967296) : dgQ u v Y ≤ u / y1 := by
  unfold dgQ
  refine Nat.le_trans (Nat.div_le_div_left (show 4294967296 * y1 ≤ Y by omega) (by omega)) ?_
  rw [← Nat.div_div_eq_div_mul, show (u * 4294967296 + v) / 4294967296 = u by omega]
  exact Nat.le_refl _
/-- The two digits are the quotient. -/
theorem dg_two {N Y : Nat} (hN : N < Y * 18446744073709551616) (hY : 0 < Y) :
    dgQ (N / 18446744073709551616) (N / 4294967296 % 4294967296) Y * 4294967296 + dgQ (dgR (N / 18446744073709551616) (N / 4294967296 % 4294967296) Y) (N % 4294967296) Y = N / Y ∧
    dgR (dgR (N / 18446744073709551616) (N / 4294967296 % 4294967296) Y) (N % 4294967296) Y = N % Y := by
  have e1 : N / 18446744073709551616 * 4294967296 + N / 4294967296 % 4294967296 = N / 4294967296 := by omega
  unfold dgQ dgR
  rw [e1]
  generalize hM : N / 4294967296 = M
  have e2 : N = M * 4294967296 + N % 4294967296 := by omega
  have e3 := Nat.div_add_mod M Y
  generalize hq : M / Y = q at *
  generalize hr : M % Y = r at *
  generalize hl : N % 4294967296 = l at *
  have e4 : N = Y * (q * 4294967296) + (r * 4294967296 + l) := by
    rw [e2, ← e3, Nat.add_mul, Nat.mul_assoc]
    omega
  constructor
  · rw [e4, Nat.mul_add_div hY]
  · rw [e4, Nat.mul_add_mod]

theorem or_low {a b s : Nat} (hb : b < 2 ^ s) : a * 2 ^ s ||| b = a * 2 ^ s + b := by
  rw [← Nat.shiftLeft_eq]
  exact (Nat.shiftLeft_add_eq_or_of_lt hb a).symm

/-- What is turned so that the divisor's first bit is 1. -/
theorem div_norm {hi lo y S T : Nat} (hST : S + T = 64) (hhi : hi < y) (hlo : lo < 18446744073709551616) (hy : y * 2 ^ S < 18446744073709551616) :
    (hi * 18446744073709551616 + lo) * 2 ^ S / 18446744073709551616 = hi * 2 ^ S + lo / 2 ^ T ∧ (hi * 18446744073709551616 + lo) * 2 ^ S % 18446744073709551616 = lo * 2 ^ S % 18446744073709551616 ∧
    (hi * 18446744073709551616 + lo) * 2 ^ S < y * 2 ^ S * 18446744073709551616 ∧ lo / 2 ^ T < 2 ^ S ∧ hi * 2 ^ S < 18446744073709551616 := by
  have hp : (2 : Nat) ^ S * 2 ^ T = 18446744073709551616 := by rw [← Nat.pow_add, hST]
  have hS := pow_pos2 S
  have hT := pow_pos2 T
  have e1 : (hi * 18446744073709551616 + lo) * 2 ^ S = 18446744073709551616 * (hi * 2 ^ S) + lo * 2 ^ S := by
    rw [Nat.add_mul, Nat.mul_comm hi, Nat.mul_assoc]
  have e2 : lo * 2 ^ S / 18446744073709551616 = lo / 2 ^ T := by
    rw [← hp, Nat.mul_comm lo, Nat.mul_div_mul_left _ _ hS]
  refine ⟨?_, ?_, ?_, ?_, ?_⟩
  · rw [e1, Nat.mul_add_div (by omega), e2]
  · rw [e1, Nat.mul_add_mod]
  · have h1 : hi * 18446744073709551616 + lo < y * 18446744073709551616 := by omega
    have h2 := Nat.mul_lt_mul_of_pos_right h1 hS
    rw [Nat.mul_right_comm] at h2
    exact h2
  · refine Nat.div_lt_of_lt_mul ?_
    rw [Nat.mul_comm, hp]
    exact hlo
  · have h1 : hi * 2 ^ S ≤ y * 2 ^ S := Nat.mul_le_mul_right _ (Nat.le_of_lt hhi)
    omega
theorem wrap_diff {m1 m2 m3 a b p u : Nat} (h1 : m1 = a % 18446744073709551616) (h2 : m2 = (m1 + b) % 18446744073709551616) (h3 : m3 = p % 18446744073709551616) (h : a + b = p + u) (hu : u < 18446744073709551616) : IntKind.u64.wrap ((m2 : Int) - (m3 : Int)) = (u : Int) := by
  rw [IntKind.wrap_u64]
  omega
theorem wrap_nat (a : Nat) : IntKind.u64.wrap (a : Int) = ((a % 18446744073709551616 : Nat) : Int) := by
  rw [IntKind.wrap_u64]
  omega

/-! ### Rounding -/
/-- The nearest number, an even one of two. -/
def nearN (p n : Nat) : Nat := p / n + if n < 2 * (p % n) ∨ (2 * (p % n) = n ∧ p / n % 2 = 1) then 1 else 0
def roundZ (p c : Int) : Int := if decide (p < 0) = decide (c < 0) then (nearN p.natAbs c.natAbs : Int) else -(nearN p.natAbs c.natAbs : Int)
/-- What MulDiv answers. -/
def muldV (a b c : Int) : Int × Int := if c = 0 then (0, 12) else if fitsI (roundZ (a * b) c) = true then (roundZ (a * b) c, 0) else (0, 11)
theorem nearN_zero {n : Nat} (hn : 0 < n) : nearN 0 n = 0 := by
  unfold nearN
  rw [Nat.zero_div, Nat.zero_mod, if_neg (by omega)]
theorem nearN_mul {a n : Nat} (hn : 0 < n) : nearN (a * n) n = a := by
  unfold nearN
  rw [Nat.mul_div_cancel _ hn, Nat.mul_mod_left, if_neg (by omega), Nat.add_zero]
theorem nearN_le {p n : Nat} (hn : 0 < n) : nearN p n ≤ p := by
  unfold nearN
  have h1 := Nat.div_add_mod p n
  have h2 := Nat.div_le_self p n
  split
  · rename_i h
    have h3 : p / n ≤ n * (p / n) := Nat.le_mul_of_pos_left _ hn
    omega
  · omega
theorem nearN_mono {p q n : Nat} (hn : 0 < n) (h : p ≤ q) : nearN p n ≤ nearN q n := by
  unfold nearN
  have h1 := Nat.div_add_mod p n
  have h2 := Nat.div_add_mod q n
  rcases Nat.lt_or_ge (p / n) (q / n) with h3 | h3
  · split <;> split <;> omega
  · have h4 : p / n = q / n := Nat.le_antisymm (Nat.div_le_div_right h) h3
    rw [h4] at h1 ⊢
    have h5 : p % n ≤ q % n := by omega
    split <;> split <;> omega
theorem roundZ_mul {a b : Int} (hb : b ≠ 0) : roundZ (a * b) b = a := by
  unfold roundZ
  rw [Int.natAbs_mul, nearN_mul (by omega)]
  by_cases ha : a = 0
  · subst ha
    split <;> simp
  · rcases Int.lt_or_lt_of_ne ha with h | h <;> rcases Int.lt_or_lt_of_ne hb with g | g
    · have : 0 < a * b := Int.mul_pos_of_neg_of_neg h g
      rw [decide_eq_false (show ¬ a * b < 0 by omega), decide_eq_true g, if_neg (by simp)]; omega
    · have : a * b < 0 := Int.mul_neg_of_neg_of_pos h g
      rw [decide_eq_true this, decide_eq_false (show ¬ b < 0 by omega), if_neg (by simp)]; omega
    · have : a * b < 0 := Int.mul_neg_of_pos_of_neg h g
      rw [decide_eq_true this, decide_eq_true g, if_pos rfl]; omega
    · have : 0 < a * b := Int.mul_pos h g
      rw [decide_eq_false (show ¬ a * b < 0 by omega), decide_eq_false (show ¬ b < 0 by omega), if_pos rfl]; omega
theorem roundZ_neg {p c : Int} (hc : c ≠ 0) : roundZ (-p) c = -roundZ p c := by
  unfold roundZ
  rw [Int.natAbs_neg]
  by_cases hp : p = 0
  · subst hp
    simp [nearN_zero (show 0 < c.natAbs by omega)]
  · rcases Int.lt_or_lt_of_ne hp with h | h
    · rw [decide_eq_false (show ¬ -p < 0 by omega), decide_eq_true h]
      by_cases g : c < 0
      · rw [decide_eq_true g]; simp
      · rw [decide_eq_false g]; simp
    · rw [decide_eq_true (show -p < 0 by omega), decide_eq_false (show ¬ p < 0 by omega)]
      by_cases g : c < 0
      · rw [decide_eq_true g]; simp
      · rw [decide_eq_false g]; simp
theorem roundZ_mono {p q c : Int} (hc : 0 < c) (h : p ≤ q) : roundZ p c ≤ roundZ q c := by
  unfold roundZ
  have hn : 0 < c.natAbs := by omega
  rw [decide_eq_false (show ¬ c < 0 by omega)]
  by_cases hp : p < 0 <;> by_cases hq : q < 0
  · rw [decide_eq_true hp, decide_eq_true hq, if_neg (by simp), if_neg (by simp)]
    have := nearN_mono hn (show q.natAbs ≤ p.natAbs by omega)
    omega
  · rw [decide_eq_true hp, decide_eq_false hq, if_neg (by simp), if_pos rfl]; omega
  · omega
  · rw [decide_eq_false hp, decide_eq_false hq, if_pos rfl, if_pos rfl]
    have := nearN_mono hn (show p.natAbs ≤ q.natAbs by omega)
    omega
theorem roundZ_fits {p c : Int} (hc : 0 < c) (h : fitsI p = true) : fitsI (roundZ p c) = true := by
  unfold fitsI at h ⊢
  rw [decide_eq_true_iff] at h ⊢
  have hn : 0 < c.natAbs := by omega
  have h1 := nearN_le (p := p.natAbs) hn
  unfold roundZ
  rw [decide_eq_false (show ¬ c < 0 by omega)]
  by_cases hp : p < 0
  · rw [decide_eq_true hp, if_neg (by simp)]; omega
  · rw [decide_eq_false hp, if_pos rfl]; omega

end Go.Proofs.Ytncodoaphfeefaa
