/- chattellaw01.AmountScales: the walk. -/
import Derived.Test.YtncodoaphfeefaaAmtG
import Derived.Test.YtncodoaphfeefaaBase
namespace Go.Proofs.Ytncodoaphfeefaa
open Go.RowKit Go.Shelf Go.Lib Go.Sort
set_option linter.unusedVariables false
set_option linter.unusedSimpArgs false

theorem md_ok {a b c x f : Int} (a1 : -9223372036854775808 ≤ a) (a2 : a ≤ 9223372036854775807) (b1 : -9223372036854775808 ≤ b) (b2 : b ≤ 9223372036854775807) (c1 : -9223372036854775808 ≤ c) (c2 : c ≤ 9223372036854775807) (h : muldV a b c = (x, f)) (w : World) :
    Calls Try.prog 9 #[.int .i64 a, .int .i64 b, .int .i64 c] w fun e w' => e = .returned (.tuple #[.int .i64 x, .int .i64 f]) ∧ Below w.heap.size w w' := by
  refine (muldiv_ok a b c a1 a2 b1 b2 c1 c2 w).mono ?_
  rintro e w' ⟨rfl, n, rfl⟩
  rw [h]
  exact ⟨rfl, below_draws _ _⟩
theorem ng_ok {a m g : Int} (a1 : -9223372036854775808 ≤ a) (a2 : a ≤ 9223372036854775807) (h : fitV (-a) = (m, g)) (w : World) :
    Calls Try.prog 21 #[.int .i64 a] w fun e w' => e = .returned (.tuple #[.int .i64 m, .int .i64 g]) ∧ Below w.heap.size w w' := by
  refine (amtneg_ok a a1 a2 w).mono ?_
  rintro e w' ⟨rfl, rfl⟩
  rw [h]
  exact ⟨rfl, Below.refl _ _⟩
theorem fitV_in {z m g : Int} (h : fitV z = (m, g)) : -9223372036854775808 ≤ m ∧ m ≤ 9223372036854775807 ∧ (g = 0 → m = z) := by
  unfold fitV at h
  by_cases hf : fitsI z = true
  · rw [if_pos hf] at h
    cases h
    have := fits_iff.1 hf
    exact ⟨this.1, this.2, fun _ => rfl⟩
  · rw [if_neg hf] at h
    cases h
    exact ⟨by omega, by omega, fun h => by cases h⟩
theorem muld_zero {a b c x f : Int} (h : muldV a b c = (x, f)) : f = 0 → c ≠ 0 ∧ x = roundZ (a * b) c := fun hf => by
  subst hf
  unfold muldV at h
  by_cases hc : c = 0
  · rw [if_pos hc] at h; cases h
  · rw [if_neg hc] at h
    split at h
    · cases h; exact ⟨hc, rfl⟩
    · cases h
theorem muld_self {a b x f : Int} (a1 : -9223372036854775808 ≤ a) (a2 : a ≤ 9223372036854775807) (h : muldV a b b = (x, f)) : (b = 0 → f = 12) ∧ (b ≠ 0 → x = a ∧ f = 0) := by
  unfold muldV at h
  constructor
  · intro hb
    rw [if_pos hb] at h
    cases h
    rfl
  · intro hb
    rw [if_neg hb, roundZ_mul hb, if_pos (fits_iff.2 ⟨a1, a2⟩)] at h
    cases h
    exact ⟨rfl, rfl⟩
theorem muld_one {a c x f : Int} (a1 : -9223372036854775808 ≤ a) (a2 : a ≤ 9223372036854775807) (hc : 1 ≤ c) (h : muldV a 1 c = (x, f)) : f = 0 ∧ x = roundZ a c := by
  unfold muldV at h
  rw [if_neg (by omega), Int.mul_one] at h
  rw [if_pos (roundZ_fits (by omega) (fits_iff.2 ⟨a1, a2⟩))] at h
  cases h
  exact ⟨rfl, rfl⟩


set_option maxHeartbeats 4000000 in
theorem scales_ok (a b c t : Int) (a1 : -9223372036854775808 ≤ a) (a2 : a ≤ 9223372036854775807) (b1 : -9223372036854775808 ≤ b) (b2 : b ≤ 9223372036854775807) (c1 : -9223372036854775808 ≤ c) (c2 : c ≤ 9223372036854775807) (t1 : -9223372036854775808 ≤ t) (t2 : t ≤ 9223372036854775807) (w : World) :
    Calls Try.prog 6 #[.int .i64 a, .int .i64 b, .agg #[.int .i64 c, .int .i64 t]] w fun e w' => e = .returned (.bool true) ∧ Below w.heap.size w w' := by
  obtain ⟨⟨n, e0⟩, v1⟩ : ∃ r, muldV a b b = r := ⟨_, rfl⟩
  obtain ⟨⟨x, f⟩, v2⟩ : ∃ r, muldV a b c = r := ⟨_, rfl⟩
  obtain ⟨⟨m, g⟩, v3⟩ : ∃ r, fitV (-a) = r := ⟨_, rfl⟩
  obtain ⟨m1, m2, m3⟩ := fitV_in v3
  obtain ⟨⟨y, h⟩, v4⟩ : ∃ r, muldV m b c = r := ⟨_, rfl⟩
  have H1 := Lib.hid (md_ok a1 a2 b1 b2 b1 b2 v1)
  have H2 := Lib.hid (md_ok a1 a2 b1 b2 c1 c2 v2)
  have H3 := Lib.hid (ng_ok a1 a2 v3)
  have H4 := Lib.hid (md_ok m1 m2 b1 b2 c1 c2 v4)
  have HT2 : Hid (g = 0 → f = 0 → h = 0 → RowKit.wrap64 (x + y) = 0) := fun hg hf hh => by
    obtain ⟨hc, r1⟩ := muld_zero v2 hf
    obtain ⟨_, r2⟩ := muld_zero v4 hh
    rw [m3 hg, Int.neg_mul, roundZ_neg hc] at r2
    rw [show x + y = 0 by omega]
    unfold RowKit.wrap64
    omega
  have H567 : Hid (1 ≤ c → ∃ p q : Int, Hid (∀ w, Calls Try.prog 9 #[.int .i64 a, .int .i64 1, .int .i64 c] w fun e w' => e = .returned (.tuple #[.int .i64 p, .int .i64 0]) ∧ Below w.heap.size w w') ∧
      Hid (∀ w, Calls Try.prog 9 #[.int .i64 t, .int .i64 1, .int .i64 c] w fun e w' => e = .returned (.tuple #[.int .i64 q, .int .i64 0]) ∧ Below w.heap.size w w') ∧ Hid (a ≤ t → p ≤ q)) := fun hc => by
    obtain ⟨⟨p, i⟩, v5⟩ : ∃ r, muldV a 1 c = r := ⟨_, rfl⟩
    obtain ⟨⟨q, j⟩, v6⟩ : ∃ r, muldV t 1 c = r := ⟨_, rfl⟩
    obtain ⟨rfl, r1⟩ := muld_one a1 a2 hc v5
    obtain ⟨rfl, r2⟩ := muld_one t1 t2 hc v6
    exact ⟨p, q, md_ok a1 a2 (by omega) (by omega) c1 c2 v5, md_ok t1 t2 (by omega) (by omega) c1 c2 v6, fun h => by rw [r1, r2]; exact roundZ_mono (by omega) h⟩
  obtain ⟨s1, s2⟩ := muld_self a1 a2 v1
  clear v1 v2 v3 v4 a1 a2 b1 b2 c1 c2 t1 t2 m1 m2 m3
  by_cases hb : b = 0
  · subst hb
    obtain rfl := s1 rfl
    clear s2
    go_enter Try.func6, Try.ntmps6
    go_wp2_with fail
    with_reducible refine (H1.out _).mono ?_
    rintro e w1 ⟨rfl, b1⟩
    have k1 : Blk w1 w.heap.size #[.int .i64 c, .int .i64 t] _ := (Blk.new _ _ _).after b1
    have d1 : Below w.heap.size w w1 := ((Below.refl _ _).alloc (Nat.le_refl _) _).trans (b1.mono (by simp))
    have cc := k1.cell 0 rfl
    clear b1
    go_wp2_with fail
    clear cc
    with_reducible refine (H2.out _).mono ?_
    rintro e w2 ⟨rfl, b2⟩
    have k2 := k1.after b2
    have d2 := d1.trans (b2.mono d1.size)
    clear b2 k1 d1
    go_wp2_with fail
    with_reducible refine (H3.out _).mono ?_
    rintro e w3 ⟨rfl, b3⟩
    have k3 := k2.after b3
    have d3 := d2.trans (b3.mono d2.size)
    clear b3 k2 d2
    go_wp2_with fail
    with_reducible refine (H4.out _).mono ?_
    rintro e w4 ⟨rfl, b4⟩
    have k4 := k3.after b4
    have d4 := d3.trans (b4.mono d3.size)
    clear b4 k3 d3
    by_cases hg : g = 0
    · by_cases hf : f = 0
      · by_cases hh : h = 0
        · have h2 := HT2.out hg hf hh
          subst hg hf hh
          have hw : (RowKit.wrap64 (x + y) != 0) = false := by rw [h2]; rfl
          clear h2
          by_cases hc : c < 1
          · go_wp2_with fail
            with_reducible refine (awake_ok _).mono ?_
            rintro e w9 ⟨rfl, b9⟩
            go_wp2_with fail
            go_ret
            exact ⟨by simp, d4.trans (b9.mono d4.size)⟩
          have hc' : decide (c < 1) = false := decide_eq_false hc
          obtain ⟨p, q, H5, H6, H7⟩ := H567.out (by omega)
          clear hc
          go_wp2_with fail
          with_reducible refine (H5.out _).mono ?_
          rintro e w5 ⟨rfl, b5⟩
          have k5 := k4.after b5
          have d5 := d4.trans (b5.mono d4.size)
          have cc := k5.cell 1 rfl
          go_wp2_with fail
          clear cc
          with_reducible refine (H6.out _).mono ?_
          rintro e w6 ⟨rfl, b6⟩
          have k6 := k5.after b6
          have d6 := d5.trans (b6.mono d5.size)
          have cc := k6.cell 1 rfl
          by_cases hat : t < a
          · go_wp2_with fail
            with_reducible refine (awake_ok _).mono ?_
            rintro e w9 ⟨rfl, b9⟩
            go_wp2_with fail
            go_ret
            exact ⟨by simp, d6.trans (b9.mono d6.size)⟩
          · have hat' : decide (t < a) = false := decide_eq_false hat
            have hpq := H7.out (by omega)
            clear hat
            go_wp2_with fail
            with_reducible refine (awake_ok _).mono ?_
            rintro e w9 ⟨rfl, b9⟩
            go_wp2_with fail
            go_ret
            exact ⟨by simp, d6.trans (b9.mono d6.size)⟩
        · have hh' : (h == 0) = false := by simp [hh]
          subst hg hf
          clear hh
          by_cases hc : c < 1
          · go_wp2_with fail
            with_reducible refine (awake_ok _).mono ?_
            rintro e w9 ⟨rfl, b9⟩
            go_wp2_with fail
            go_ret
            exact ⟨by simp, d4.trans (b9.mono d4.size)⟩
          have hc' : decide (c < 1) = false := decide_eq_false hc
          obtain ⟨p, q, H5, H6, H7⟩ := H567.out (by omega)
          clear hc
          go_wp2_with fail
          with_reducible refine (H5.out _).mono ?_
          rintro e w5 ⟨rfl, b5⟩
          have k5 := k4.after b5
          have d5 := d4.trans (b5.mono d4.size)
          have cc := k5.cell 1 rfl
          go_wp2_with fail
          clear cc
          with_reducible refine (H6.out _).mono ?_
          rintro e w6 ⟨rfl, b6⟩
          have k6 := k5.after b6
          have d6 := d5.trans (b6.mono d5.size)
          have cc := k6.cell 1 rfl
          by_cases hat : t < a
          · go_wp2_with fail
            with_reducible refine (awake_ok _).mono ?_
            rintro e w9 ⟨rfl, b9⟩
            go_wp2_with fail
            go_ret
            exact ⟨by simp, d6.trans (b9.mono d6.size)⟩
          · have hat' : decide (t < a) = false := decide_eq_false hat
            have hpq := H7.out (by omega)
            clear hat
            go_wp2_with fail
            with_reducible refine (awake_ok _).mono ?_
            rintro e w9 ⟨rfl, b9⟩
            go_wp2_with fail
            go_ret
            exact ⟨by simp, d6.trans (b9.mono d6.size)⟩
      · have hf' : (f == 0) = false := by simp [hf]
        subst hg
        clear hf
        by_cases hc : c < 1
        · go_wp2_with fail
          with_reducible refine (awake_ok _).mono ?_
          rintro e w9 ⟨rfl, b9⟩
          go_wp2_with fail
          go_ret
          exact ⟨by simp, d4.trans (b9.mono d4.size)⟩
        have hc' : decide (c < 1) = false := decide_eq_false hc
        obtain ⟨p, q, H5, H6, H7⟩ := H567.out (by omega)
        clear hc
        go_wp2_with fail
        with_reducible refine (H5.out _).mono ?_
        rintro e w5 ⟨rfl, b5⟩
        have k5 := k4.after b5
        have d5 := d4.trans (b5.mono d4.size)
        have cc := k5.cell 1 rfl
        go_wp2_with fail
        clear cc
        with_reducible refine (H6.out _).mono ?_
        rintro e w6 ⟨rfl, b6⟩
        have k6 := k5.after b6
        have d6 := d5.trans (b6.mono d5.size)
        have cc := k6.cell 1 rfl
        by_cases hat : t < a
        · go_wp2_with fail
          with_reducible refine (awake_ok _).mono ?_
          rintro e w9 ⟨rfl, b9⟩
          go_wp2_with fail
          go_ret
          exact ⟨by simp, d6.trans (b9.mono d6.size)⟩
        · have hat' : decide (t < a) = false := decide_eq_false hat
          have hpq := H7.out (by omega)
          clear hat
          go_wp2_with fail
          with_reducible refine (awake_ok _).mono ?_
          rintro e w9 ⟨rfl, b9⟩
          go_wp2_with fail
          go_ret
          exact ⟨by simp, d6.trans (b9.mono d6.size)⟩
    · have hg' : (g == 0) = false := by simp [hg]
      clear hg
      by_cases hc : c < 1
      · go_wp2_with fail
        with_reducible refine (awake_ok _).mono ?_
        rintro e w9 ⟨rfl, b9⟩
        go_wp2_with fail
        go_ret
        exact ⟨by simp, d4.trans (b9.mono d4.size)⟩
      have hc' : decide (c < 1) = false := decide_eq_false hc
      obtain ⟨p, q, H5, H6, H7⟩ := H567.out (by omega)
      clear hc
      go_wp2_with fail
      with_reducible refine (H5.out _).mono ?_
      rintro e w5 ⟨rfl, b5⟩
      have k5 := k4.after b5
      have d5 := d4.trans (b5.mono d4.size)
      have cc := k5.cell 1 rfl
      go_wp2_with fail
      clear cc
      with_reducible refine (H6.out _).mono ?_
      rintro e w6 ⟨rfl, b6⟩
      have k6 := k5.after b6
      have d6 := d5.trans (b6.mono d5.size)
      have cc := k6.cell 1 rfl
      by_cases hat : t < a
      · go_wp2_with fail
        with_reducible refine (awake_ok _).mono ?_
        rintro e w9 ⟨rfl, b9⟩
        go_wp2_with fail
        go_ret
        exact ⟨by simp, d6.trans (b9.mono d6.size)⟩
      · have hat' : decide (t < a) = false := decide_eq_false hat
        have hpq := H7.out (by omega)
        clear hat
        go_wp2_with fail
        with_reducible refine (awake_ok _).mono ?_
        rintro e w9 ⟨rfl, b9⟩
        go_wp2_with fail
        go_ret
        exact ⟨by simp, d6.trans (b9.mono d6.size)⟩
  · obtain ⟨hna, rfl⟩ := s2 hb
    obtain rfl : a = n := hna.symm
    have hb1 : (b != 0) = true := by simp [hb]
    have hb2 : (b == 0) = false := by simp [hb]
    clear hb s1 s2
    go_enter Try.func6, Try.ntmps6
    go_wp2_with fail
    with_reducible refine (H1.out _).mono ?_
    rintro e w1 ⟨rfl, b1⟩
    have k1 : Blk w1 w.heap.size #[.int .i64 c, .int .i64 t] _ := (Blk.new _ _ _).after b1
    have d1 : Below w.heap.size w w1 := ((Below.refl _ _).alloc (Nat.le_refl _) _).trans (b1.mono (by simp))
    have cc := k1.cell 0 rfl
    clear b1
    go_wp2_with fail
    clear cc
    with_reducible refine (H2.out _).mono ?_
    rintro e w2 ⟨rfl, b2⟩
    have k2 := k1.after b2
    have d2 := d1.trans (b2.mono d1.size)
    clear b2 k1 d1
    go_wp2_with fail
    with_reducible refine (H3.out _).mono ?_
    rintro e w3 ⟨rfl, b3⟩
    have k3 := k2.after b3
    have d3 := d2.trans (b3.mono d2.size)
    clear b3 k2 d2
    go_wp2_with fail
    with_reducible refine (H4.out _).mono ?_
    rintro e w4 ⟨rfl, b4⟩
    have k4 := k3.after b4
    have d4 := d3.trans (b4.mono d3.size)
    clear b4 k3 d3
    by_cases hg : g = 0
    · by_cases hf : f = 0
      · by_cases hh : h = 0
        · have h2 := HT2.out hg hf hh
          subst hg hf hh
          have hw : (RowKit.wrap64 (x + y) != 0) = false := by rw [h2]; rfl
          clear h2
          by_cases hc : c < 1
          · go_wp2_with fail
            with_reducible refine (awake_ok _).mono ?_
            rintro e w9 ⟨rfl, b9⟩
            go_wp2_with fail
            go_ret
            exact ⟨by simp, d4.trans (b9.mono d4.size)⟩
          have hc' : decide (c < 1) = false := decide_eq_false hc
          obtain ⟨p, q, H5, H6, H7⟩ := H567.out (by omega)
          clear hc
          go_wp2_with fail
          with_reducible refine (H5.out _).mono ?_
          rintro e w5 ⟨rfl, b5⟩
          have k5 := k4.after b5
          have d5 := d4.trans (b5.mono d4.size)
          have cc := k5.cell 1 rfl
          go_wp2_with fail
          clear cc
          with_reducible refine (H6.out _).mono ?_
          rintro e w6 ⟨rfl, b6⟩
          have k6 := k5.after b6
          have d6 := d5.trans (b6.mono d5.size)
          have cc := k6.cell 1 rfl
          by_cases hat : t < a
          · go_wp2_with fail
            with_reducible refine (awake_ok _).mono ?_
            rintro e w9 ⟨rfl, b9⟩
            go_wp2_with fail
            go_ret
            exact ⟨by simp, d6.trans (b9.mono d6.size)⟩
          · have hat' : decide (t < a) = false := decide_eq_false hat
            have hpq := H7.out (by omega)
            clear hat
            go_wp2_with fail
            with_reducible refine (awake_ok _).mono ?_
            rintro e w9 ⟨rfl, b9⟩
            go_wp2_with fail
            go_ret
            exact ⟨by simp, d6.trans (b9.mono d6.size)⟩
        · have hh' : (h == 0) = false := by simp [hh]
          subst hg hf
          clear hh
          by_cases hc : c < 1
          · go_wp2_with fail
            with_reducible refine (awake_ok _).mono ?_
            rintro e w9 ⟨rfl, b9⟩
            go_wp2_with fail
            go_ret
            exact ⟨by simp, d4.trans (b9.mono d4.size)⟩
          have hc' : decide (c < 1) = false := decide_eq_false hc
          obtain ⟨p, q, H5, H6, H7⟩ := H567.out (by omega)
          clear hc
          go_wp2_with fail
          with_reducible refine (H5.out _).mono ?_
          rintro e w5 ⟨rfl, b5⟩
          have k5 := k4.after b5
          have d5 := d4.trans (b5.mono d4.size)
          have cc := k5.cell 1 rfl
          go_wp2_with fail
          clear cc
          with_reducible refine (H6.out _).mono ?_
          rintro e w6 ⟨rfl, b6⟩
          have k6 := k5.after b6
          have d6 := d5.trans (b6.mono d5.size)
          have cc := k6.cell 1 rfl
          by_cases hat : t < a
          · go_wp2_with fail
            with_reducible refine (awake_ok _).mono ?_
            rintro e w9 ⟨rfl, b9⟩
            go_wp2_with fail
            go_ret
            exact ⟨by simp, d6.trans (b9.mono d6.size)⟩
          · have hat' : decide (t < a) = false := decide_eq_false hat
            have hpq := H7.out (by omega)
            clear hat
            go_wp2_with fail
            with_reducible refine (awake_ok _).mono ?_
            rintro e w9 ⟨rfl, b9⟩
            go_wp2_with fail
            go_ret
            exact ⟨by simp, d6.trans (b9.mono d6.size)⟩
      · have hf' : (f == 0) = false := by simp [hf]
        subst hg
        clear hf
        by_cases hc : c < 1
        · go_wp2_with fail
          with_reducible refine (awake_ok _).mono ?_
          rintro e w9 ⟨rfl, b9⟩
          go_wp2_with fail
          go_ret
          exact ⟨by simp, d4.trans (b9.mono d4.size)⟩
        have hc' : decide (c < 1) = false := decide_eq_false hc
        obtain ⟨p, q, H5, H6, H7⟩ := H567.out (by omega)
        clear hc
        go_wp2_with fail
        with_reducible refine (H5.out _).mono ?_
        rintro e w5 ⟨rfl, b5⟩
        have k5 := k4.after b5
        have d5 := d4.trans (b5.mono d4.size)
        have cc := k5.cell 1 rfl
        go_wp2_with fail
        clear cc
        with_reducible refine (H6.out _).mono ?_
        rintro e w6 ⟨rfl, b6⟩
        have k6 := k5.after b6
        have d6 := d5.trans (b6.mono d5.size)
        have cc := k6.cell 1 rfl
        by_cases hat : t < a
        · go_wp2_with fail
          with_reducible refine (awake_ok _).mono ?_
          rintro e w9 ⟨rfl, b9⟩
          go_wp2_with fail
          go_ret
          exact ⟨by simp, d6.trans (b9.mono d6.size)⟩
        · have hat' : decide (t < a) = false := decide_eq_false hat
          have hpq := H7.out (by omega)
          clear hat
          go_wp2_with fail
          with_reducible refine (awake_ok _).mono ?_
          rintro e w9 ⟨rfl, b9⟩
          go_wp2_with fail
          go_ret
          exact ⟨by simp, d6.trans (b9.mono d6.size)⟩
    · have hg' : (g == 0) = false := by simp [hg]
      clear hg
      by_cases hc : c < 1
      · go_wp2_with fail
        with_reducible refine (awake_ok _).mono ?_
        rintro e w9 ⟨rfl, b9⟩
        go_wp2_with fail
        go_ret
        exact ⟨by simp, d4.trans (b9.mono d4.size)⟩
      have hc' : decide (c < 1) = false := decide_eq_false hc
      obtain ⟨p, q, H5, H6, H7⟩ := H567.out (by omega)
      clear hc
      go_wp2_with fail
      with_reducible refine (H5.out _).mono ?_
      rintro e w5 ⟨rfl, b5⟩
      have k5 := k4.after b5
      have d5 := d4.trans (b5.mono d4.size)
      have cc := k5.cell 1 rfl
      go_wp2_with fail
      clear cc
      with_reducible refine (H6.out _).mono ?_
      rintro e w6 ⟨rfl, b6⟩
      have k6 := k5.after b6
      have d6 := d5.trans (b6.mono d5.size)
      have cc := k6.cell 1 rfl
      by_cases hat : t < a
      · go_wp2_with fail
        with_reducible refine (awake_ok _).mono ?_
        rintro e w9 ⟨rfl, b9⟩
        go_wp2_with fail
        go_ret
        exact ⟨by simp, d6.trans (b9.mono d6.size)⟩
      · have hat' : decide (t < a) = false := decide_eq_false hat
        have hpq := H7.out (by omega)
        clear hat
        go_wp2_with fail
        with_reducible refine (awake_ok _).mono ?_
        rintro e w9 ⟨rfl, b9⟩
        go_wp2_with fail
        go_ret
        exact ⟨by simp, d6.trans (b9.mono d6.size)⟩

theorem wf_int {x : Int} (h : (Lit.int .i64 x).wf = true) : -9223372036854775808 ≤ x ∧ x ≤ 9223372036854775807 := wf_bounds h
theorem walk_AmountScales {H : Type} (enc : TypeId × Value → H) (base : Nat) (W : World) (a : Int) (wa : (Lit.int .i64 a).wf = true) (b : Int) (wb : (Lit.int .i64 b).wf = true)
    (v : Value) (d : DataW H) (p : List MemPlace) (h : DataW.Trod enc Try.prog W 0 (fun _ => true) true 42 v d p) (ok : Value.okWide Try.prog W .any base 42 v) :
    Calls Try.prog 6 #[.int .i64 a, .int .i64 b, v] W fun e w' => e = .returned (.bool true) ∧ Below W.heap.size W w' := by
  obtain ⟨cs, rfl⟩ := okWide_agg (by kernel_rfl) ok
  have hl := arg_leaves (d := 3) (ls := [3, 3]) (by kernel_rfl) h
  obtain ⟨c0, cs0, e0, h0, hl⟩ := hl.cons
  obtain ⟨c1, cs1, e1, h1, hl⟩ := hl.cons
  obtain ⟨d0, rfl, f0⟩ := h0.int Try.underlying3
  obtain ⟨d1, rfl, f1⟩ := h1.int Try.underlying3
  obtain rfl := hl.nil
  obtain ⟨l⟩ := cs
  simp only [Value.cells] at e0
  subst e0
  subst e1
  exact scales_ok a b d0 d1 (wf_int wa).1 (wf_int wa).2 (wf_int wb).1 (wf_int wb).2 (wf_int f0).1 (wf_int f0).2 (wf_int f1).1 (wf_int f1).2 W

end Go.Proofs.Ytncodoaphfeefaa
