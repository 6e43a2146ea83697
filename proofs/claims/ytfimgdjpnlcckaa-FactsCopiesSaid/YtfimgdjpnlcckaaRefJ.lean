/- The document's ratios (package chattelref02): Check. -/
import Derived.Test.YtfimgdjpnlcckaaRefI
import Derived.Test.YtfimgdjpnlcckaaRat
import Derived.Test.YtfimgdjpnlcckaaEqs
namespace Go.Proofs.Ytfimgdjpnlcckaa
open Go.RowKit
set_option linter.unusedVariables false
set_option linter.unusedSimpArgs false

theorem ratio_plain (x y : Int) (hy : y ≠ 0) (h1 : -9223372036854775808 ≤ x) (h2 : x ≤ 9223372036854775807) (h3 : -9223372036854775808 ≤ y) (h4 : y ≤ 9223372036854775807) :
    ((ratioV x y).2 = 0 ∧ (ratioV x y).1.1 = x ∧ (ratioV x y).1.2 = y) ↔ ¬ (y < 0 ∨ x = -9223372036854775808 ∨ Nat.gcd x.natAbs y.natAbs ≠ 1) := by
  obtain ⟨G, hG⟩ : ∃ G, Nat.gcd x.natAbs y.natAbs = G := ⟨_, rfl⟩
  have hG0 : 0 < G := by rw [← hG]; exact Nat.gcd_pos_of_pos_right _ (by omega)
  have d1 : x.natAbs / G * G = x.natAbs := by rw [← hG]; exact Nat.div_mul_cancel (Nat.gcd_dvd_left _ _)
  have d2 : y.natAbs / G * G = y.natAbs := by rw [← hG]; exact Nat.div_mul_cancel (Nat.gcd_dvd_right _ _)
  have hV : ratioV x y = if fitsI ((x.natAbs / G : Nat) : Int) = true ∧ fitsI ((y.natAbs / G : Nat) : Int) = true then
    ((if decide (x < 0) = decide (y < 0) then ((x.natAbs / G : Nat) : Int) else -((x.natAbs / G : Nat) : Int), ((y.natAbs / G : Nat) : Int)), 0)
    else ((0, 0), 11) := by rw [← hG]; rfl
  rw [hV, hG]
  clear hV hG
  obtain ⟨P, hP⟩ : ∃ P, x.natAbs / G = P := ⟨_, rfl⟩
  obtain ⟨Q, hQ⟩ : ∃ Q, y.natAbs / G = Q := ⟨_, rfl⟩
  rw [hP, hQ]
  rw [hP] at d1
  rw [hQ] at d2
  constructor
  · rintro ⟨e1, e2, e3⟩
    split at e1
    · rename_i hf
      rw [if_pos hf] at e2 e3
      dsimp only at e1 e2 e3
      obtain ⟨f1, f2⟩ := hf
      unfold fitsI at f1 f2
      rw [decide_eq_true_iff] at f1 f2
      have hy0 : 0 < y := by omega
      have hG1 : G = 1 := by
        have e4 : Q = y.natAbs := by omega
        rw [e4] at d2
        have h5 : y.natAbs * G = y.natAbs * 1 := by omega
        exact Nat.eq_of_mul_eq_mul_left (by omega) h5
      subst hG1
      rintro (h | h | h)
      · omega
      · omega
      · exact h rfl
    · dsimp only at e1
      omega
  · intro h
    have hy0 : 0 < y := by
      rcases Int.lt_trichotomy y 0 with g | g | g
      · exact absurd (Or.inl g) h
      · exact absurd g hy
      · exact g
    have hx : x ≠ -9223372036854775808 := fun g => h (Or.inr (Or.inl g))
    have hG1 : G = 1 := Decidable.byContradiction fun g => h (Or.inr (Or.inr g))
    subst hG1
    rw [Nat.mul_one] at d1 d2
    subst d1 d2
    have f1 : fitsI (x.natAbs : Int) = true := by unfold fitsI; rw [decide_eq_true_iff]; omega
    have f2 : fitsI (y.natAbs : Int) = true := by unfold fitsI; rw [decide_eq_true_iff]; omega
    rw [if_pos ⟨f1, f2⟩]
    dsimp only
    refine ⟨rfl, ?_, by omega⟩
    by_cases hx0 : x < 0
    · rw [decide_eq_true hx0, decide_eq_false (show ¬ y < 0 by omega), if_neg (by simp)]; omega
    · rw [decide_eq_false hx0, decide_eq_false (show ¬ y < 0 by omega), if_pos rfl]; omega

set_option maxHeartbeats 2000000 in
set_option maxRecDepth 100000 in
theorem ref2chk_ok (x y : Int) (h1 : -9223372036854775808 ≤ x) (h2 : x ≤ 9223372036854775807) (h3 : -9223372036854775808 ≤ y) (h4 : y ≤ 9223372036854775807) (w : World) :
    Calls Try.prog 28 #[.agg #[.int .i64 x, .int .i64 y]] w fun e w' => e = .returned (.int .i64 (ratV x y)) ∧ Below w.heap.size w w' := by
  obtain ⟨wa, hwa⟩ : ∃ wa, w.alloc (.cells #[.int .i64 x, .int .i64 y] 29) = wa := ⟨_, rfl⟩
  have ba : Hid (Below w.heap.size w wa) := by show Below _ _ _; rw [← hwa]; exact (Below.refl _ _).alloc (Nat.le_refl _) _
  have k0 : Blk wa w.heap.size #[.int .i64 x, .int .i64 y] 29 := by rw [← hwa]; exact Blk.new _ _ _
  have K0 := Lib.hid k0
  have c0 : wa.cell? ⟨w.heap.size, 0, none⟩ = some (.int .i64 x) := k0.cell 0 rfl
  have c1 : wa.cell? ⟨w.heap.size, 1, none⟩ = some (.int .i64 y) := k0.cell 1 rfl
  obtain ⟨V, hV⟩ : ∃ V, ratV x y = V := ⟨_, rfl⟩
  rw [hV]
  have HV := Lib.hid hV
  have HO := Lib.hid (ref2of_ok x y h1 h2 h3 h4 wa)
  have hsm : ∀ z : Int, -9223372036854775808 ≤ z → z ≤ 9223372036854775807 → blen z.natAbs ≤ 5000 := fun z a b => by
    have h64 : (2 : Nat) ^ 64 = 18446744073709551616 := by decide
    have := blen_le.2 (show z.natAbs < 2 ^ 64 by rw [h64]; omega)
    omega
  have HX := Lib.hid (hsm x h1 h2)
  have HY := Lib.hid (hsm y h3 h4)
  have HPL := Lib.hid (fun hy => ratio_plain x y hy h1 h2 h3 h4)
  clear k0 hV hsm
  by_cases hd : y = 0
  · subst hd
    go_enter Try.func28, Try.ntmps28
    go_wp2_with fail
    go_ret
    exact ⟨by rw [← HV.out]; rfl, ba.out⟩
  · have hd0 : (y == 0) = false := by simp [hd]
    have HD := Lib.hid hd
    have HVV : Hid (V = if y < 0 ∨ x = -9223372036854775808 ∨ Nat.gcd x.natAbs y.natAbs ≠ 1 then 13 else 0) := by
      have := HV.out
      unfold ratV at this
      rw [if_neg hd] at this
      exact this.symm
    have HP := Lib.hid (HPL.out hd)
    clear hd HPL
    go_enter Try.func28, Try.ntmps28
    go_wp2_with fail
    with_reducible refine HO.out.mono ?_
    rintro e w1 ⟨s, a, l, cap, t, b, m, cap', rfl, hb1, hb2, hbw⟩
    have HRA := Lib.hid (refratio_ok x y HD.out s t a b l m cap cap' w1 hb1 hb2 HX.out HY.out)
    unfold RatioEnd at HRA
    obtain ⟨⟨⟨u, v⟩, er⟩, hr⟩ : ∃ r, ratioV x y = r := ⟨_, rfl⟩
    rw [hr] at HRA HP
    dsimp only at HRA HP
    have B1 := Lib.hid (ba.out.trans (hbw.mono ba.out.size))
    have K1 := Lib.hid (K0.out.after hbw)
    clear hb1 hb2 hbw hr c0 c1
    go_wp2_with fail
    with_reducible refine HRA.out.mono ?_
    rintro e w2 ⟨rfl, hbw⟩
    have B2 := Lib.hid (B1.out.trans (hbw.mono B1.out.size))
    have K2 := Lib.hid (K1.out.after hbw)
    obtain ⟨X, hX⟩ : ∃ X, w2.heap.size = X := ⟨_, rfl⟩
    obtain ⟨wc, hwc⟩ : ∃ wc, w2.alloc (.cells #[.int .i64 0, .int .i64 0] 29) = wc := ⟨_, rfl⟩
    have k0 : Blk wc X #[.int .i64 0, .int .i64 0] 29 := by rw [← hwc, ← hX]; exact Blk.new _ _ _
    have bc : Below w2.heap.size w2 wc := by rw [← hwc]; exact (Below.refl _ _).alloc (Nat.le_refl _) _
    obtain ⟨wd, hwd⟩ : ∃ wd, (wc.setCell ⟨X, 0, none⟩ (.int .i64 u)).setCell ⟨X, 1, none⟩ (.int .i64 v) = wd := ⟨_, rfl⟩
    have k1 : Blk wd X #[.int .i64 u, .int .i64 v] 29 := by rw [← hwd]; exact (k0.set 0 _).set 1 _
    have bd : Below w2.heap.size w2 wd := by rw [← hwd, hX]; rw [hX] at bc; exact (bc.setCell (p := ⟨X, 0, none⟩) (Nat.le_refl _) _).setCell (p := ⟨X, 1, none⟩) (Nat.le_refl _) _
    have B3 := Lib.hid (B2.out.trans (bd.mono B2.out.size))
    have K3 := Lib.hid (K2.out.after bd)
    have y0 := k0.free 0
    have y1 := k0.free 1
    have y2 : wc.cell? ⟨X, 0, none⟩ = some (.int .i64 0) := k0.cell 0 rfl
    have y3 : wc.cell? ⟨X, 1, none⟩ = some (.int .i64 0) := k0.cell 1 rfl
    have z0 : wd.cell? ⟨X, 0, none⟩ = some (.int .i64 u) := k1.cell 0 rfl
    have z1 : wd.cell? ⟨X, 1, none⟩ = some (.int .i64 v) := k1.cell 1 rfl
    have c0 : wd.cell? ⟨w.heap.size, 0, none⟩ = some (.int .i64 x) := K3.out.cell 0 rfl
    have c1 : wd.cell? ⟨w.heap.size, 1, none⟩ = some (.int .i64 y) := K3.out.cell 1 rfl
    clear k0 k1 bc bd hbw
    by_cases her : er = 0
    · subst her
      have h0 : ((0 : Int) != 0) = false := rfl
      by_cases huv : u = x ∧ v = y
      · obtain ⟨rfl, rfl⟩ := huv
        have HR : Hid (V = 0) := by
          rw [show V = _ from HVV.out, if_neg (HP.out.1 ⟨rfl, rfl, rfl⟩)]
          exact rfl
        go_wp2_with fail
        go_ret
        exact ⟨by rw [HR.out]; rfl, B3.out⟩
      · have HR : Hid (V = 13) := by
          rw [show V = _ from HVV.out, if_pos (Decidable.byContradiction fun g => huv (HP.out.2 g).2)]
          exact rfl
        have HN := Lib.hid huv
        clear huv
        go_wp2_with fail
        all_goals first
          | exact absurd ⟨by assumption, by assumption⟩ HN.out
          | (go_ret; exact ⟨by rw [HR.out]; rfl, B3.out⟩)
    · have HR : Hid (V = 13) := by
        rw [show V = _ from HVV.out, if_pos (Decidable.byContradiction fun g => her (HP.out.2 g).1)]
        exact rfl
      have h0 : (er != 0) = true := by simp [her]
      clear her
      go_wp2_with fail
      go_ret
      exact ⟨by rw [HR.out]; rfl, B3.out⟩

end Go.Proofs.Ytfimgdjpnlcckaa
