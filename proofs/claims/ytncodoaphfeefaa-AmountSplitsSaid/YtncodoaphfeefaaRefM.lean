/- The reference's numbers as bits (package chattelref01): Mul. -/
import Derived.Test.YtncodoaphfeefaaRefP
import Derived.Test.YtncodoaphfeefaaRefE
namespace Go.Proofs.Ytncodoaphfeefaa
open Go.RowKit
set_option linter.unusedVariables false
set_option linter.unusedSimpArgs false

theorem bit_cases (N k : Nat) : (bitAt N k = 0 ∧ N / 2 ^ k % 2 = 0) ∨ (bitAt N k = 1 ∧ N / 2 ^ k % 2 = 1) := by
  unfold bitAt
  rcases Nat.mod_two_eq_zero_or_one (N / 2 ^ k) with h | h <;> rw [h]
  · exact Or.inl ⟨rfl, rfl⟩
  · exact Or.inr ⟨rfl, rfl⟩
theorem low_bits {N k j : Nat} (h : j < k) : bitAt (N * 2 ^ k) j = 0 := by
  unfold bitAt
  have e : N * 2 ^ k / 2 ^ j = N * 2 ^ (k - j) := by
    rw [show k = (k - j) + j by omega, Nat.pow_add, ← Nat.mul_assoc, Nat.mul_div_cancel _ (pow_pos2 j)]
    rw [show k - j + j - j = k - j by omega]
  rw [e, show k - j = (k - j - 1) + 1 by omega, Nat.pow_succ, ← Nat.mul_assoc, Nat.mul_mod_left]
  rfl
theorem high_bits (N k j : Nat) : bitAt (N * 2 ^ k) (k + j) = bitAt N j := by
  unfold bitAt
  rw [Nat.pow_add, ← Nat.div_div_eq_div_mul, Nat.mul_div_cancel _ (pow_pos2 k)]
theorem made_bits (N k : Nat) : madeCells #[.int .i64 0] k = (someBits (N * 2 ^ k) k).toArray := by
  rw [quoB_start 0 k]
  unfold quoB someBits
  congr 1
  refine List.map_congr_left fun j hj => ?_
  have hj := List.mem_range.1 hj
  rw [if_neg (by omega)]
  unfold bitV
  rw [low_bits hj]
theorem shift_bits (N k L : Nat) : someBits (N * 2 ^ k) k ++ (List.range L).map (bitV N) = someBits (N * 2 ^ k) (k + L) := by
  unfold someBits
  rw [List.range_add, List.map_append, List.map_map]
  congr 1
  refine List.map_congr_left fun j _ => ?_
  show bitV N j = bitV (N * 2 ^ k) (k + j)
  unfold bitV
  rw [high_bits]
theorem shift_len (N k : Nat) : blen (N * 2 ^ k) ≤ k + blen N := by
  refine blen_le.2 ?_
  rw [Nat.pow_add, Nat.mul_comm]
  exact Nat.mul_lt_mul_of_pos_left (blen_le.1 (Nat.le_refl _)) (pow_pos2 k)
theorem mul_zero_bit {N2 k : Nat} (N1 : Nat) (h : N2 / 2 ^ k % 2 = 0) : N1 * (N2 % 2 ^ (k + 1)) = N1 * (N2 % 2 ^ k) := by rw [mod_succ, h, Nat.mul_zero, Nat.zero_add]
theorem mul_one_bit {N2 k : Nat} (N1 : Nat) (h : N2 / 2 ^ k % 2 = 1) : N1 * (N2 % 2 ^ (k + 1)) = N1 * (N2 % 2 ^ k) + N1 * 2 ^ k := by rw [mod_succ, h, Nat.mul_one, Nat.mul_add, Nat.add_comm]
theorem mul_sign {z1 z2 : Int} : decide (z1 * z2 < 0) = ((decide (z1 < 0) != decide (z2 < 0)) && decide (0 < blen (z1.natAbs * z2.natAbs))) := by
  have h0 : 0 < blen (z1.natAbs * z2.natAbs) ↔ z1 ≠ 0 ∧ z2 ≠ 0 := by
    have h1 := @blen_eq_zero (z1.natAbs * z2.natAbs)
    have h2 : z1.natAbs * z2.natAbs = 0 ↔ z1 = 0 ∨ z2 = 0 := by rw [Nat.mul_eq_zero]; omega
    omega
  have h3 : decide (0 < blen (z1.natAbs * z2.natAbs)) = (!decide (z1 = 0) && !decide (z2 = 0)) := by
    rw [Bool.eq_iff_iff]
    simp only [decide_eq_true_iff, Bool.and_eq_true, Bool.not_eq_true', decide_eq_false_iff_not]
    exact h0
  rw [h3]
  rcases Int.lt_trichotomy z1 0 with h | h | h <;> rcases Int.lt_trichotomy z2 0 with g | g | g
  · have := Int.mul_pos_of_neg_of_neg h g; simp [h, g, show ¬ z1 * z2 < 0 by omega]
  · subst g; simp
  · have := Int.mul_neg_of_neg_of_pos h g; simp [h, show ¬ z2 < 0 by omega, this]; omega
  · subst h; simp
  · subst h; simp
  · subst h; simp
  · have := Int.mul_neg_of_pos_of_neg h g; simp [g, show ¬ z1 < 0 by omega, this]; omega
  · subst g; simp
  · have := Int.mul_pos h g; simp [show ¬ z1 < 0 by omega, show ¬ z2 < 0 by omega, show ¬ z1 * z2 < 0 by omega]


set_option maxHeartbeats 2000000 in
set_option maxRecDepth 100000 in
theorem mul_big (z1 z2 : Int) (s t : Bool) (a a' : Option Addr) (l l' cap cap' : Nat) (w : World) (h1 : BigAt w z1 s a l cap) (h2 : BigAt w z2 t a' l' cap') (b1 : blen z1.natAbs ≤ 2000) (b2 : blen z2.natAbs ≤ 2000) :
    Calls Try.prog 13 #[.agg #[.bool s, .slice a l cap], .agg #[.bool t, .slice a' l' cap']] w (BigEnd (z1 * z2) w) := by
  obtain ⟨i0, hi, hz0, hz1, hz2⟩ := info_parts infoInt
  obtain ⟨hs, rfl, hc, hm, hr⟩ := h1
  obtain ⟨ht, rfl, hc', hm', hr'⟩ := h2
  have HSG : Hid (decide (z1 * z2 < 0) = ((s != t) && decide (0 < blen (z1.natAbs * z2.natAbs)))) := by
    show _ = _
    rw [hs, ht]
    exact mul_sign
  obtain ⟨N1, hN1⟩ : ∃ N, z1.natAbs = N := ⟨_, rfl⟩
  obtain ⟨N2, hN2⟩ : ∃ N, z2.natAbs = N := ⟨_, rfl⟩
  have HNA : Hid ((z1 * z2).natAbs = N1 * N2) := by show _ = _; rw [Int.natAbs_mul, hN1, hN2]
  rw [hN1] at hr hc b1 HSG ⊢
  rw [hN2] at hr' hc' b2 HSG ⊢
  have hal : Below w.heap.size w (((w.alloc (.cells #[.bool s, .slice a (blen N1) cap] 29)).alloc (.cells #[.bool t, .slice a' (blen N2) cap'] 29)).alloc (.cells #[.bool false, .slice none 0 0] 29)) :=
    (((Below.refl _ _).alloc (Nat.le_refl _) _).alloc (by simp) _).alloc (by simp; omega) _
  have hx : AddBox (((w.alloc (.cells #[.bool s, .slice a (blen N1) cap] 29)).alloc (.cells #[.bool t, .slice a' (blen N2) cap'] 29)).alloc (.cells #[.bool false, .slice none 0 0] 29)) w.heap.size s t a a' (blen N1) (blen N2) cap cap' :=
    ⟨by go_simp, by go_simp, by go_simp, by go_simp, by go_simp, by go_simp, by go_simp, by go_simp⟩
  obtain ⟨wa, hwa⟩ : ∃ wa, (((w.alloc (.cells #[.bool s, .slice a (blen N1) cap] 29)).alloc (.cells #[.bool t, .slice a' (blen N2) cap'] 29)).alloc (.cells #[.bool false, .slice none 0 0] 29)) = wa := ⟨_, rfl⟩
  have hsz : wa.heap.size = w.heap.size + 1 + 1 + 1 := by rw [← hwa]; simp
  have HSZ := Lib.hid hsz
  clear hs ht hN1 hN2
  go_enter Try.func13, Try.ntmps13
  go_wp2_with fail
  rw [hwa] at hal hx
  try rw [hwa]
  have HR1 := Lib.hid (hr.after hal)
  have HR2 := Lib.hid (hr'.after hal)
  have HX := Lib.hid hx
  have HAL := Lib.hid hal
  clear hwa hsz hr hr' hx hal
  go_loopw [5, 6] (fun v i wr => ∃ (k L : Nat) (c : Option Addr) (oc : Nat), k ≤ blen N2 ∧ i = .int .i64 (k : Int) ∧ v = .slice c L oc ∧ Hid (RowAt wr c L (bitV (N1 * (N2 % 2 ^ k)))) ∧ Hid (blen (N1 * (N2 % 2 ^ k)) ≤ L ∧ L ≤ blen N1 + k + 1 ∧ L ≤ oc ∧ oc ≤ maxLen ∧ (∀ x, c = some x → wa.heap.size ≤ x.block) ∧ (c = none → L = 0 ∧ oc = 0)) ∧ Hid (Below wa.heap.size wa wr)) (fun _ i _ => blen N2 - (intOf i).toNat)
  case atStart =>
    have e0 : N1 * (N2 % 2 ^ 0) = 0 := by simp [Nat.mod_one]
    refine ⟨0, 0, none, 0, by omega, rfl, rfl, ?_, ?_, (show Below _ _ _ from Below.refl _ _)⟩
    · show RowAt _ _ _ _
      exact RowAt.nil _ _ _
    · show _ ∧ _
      rw [e0]
      exact ⟨Nat.le_refl _, by omega, Nat.le_refl _, by unfold maxLen; omega, (fun x e => by cases e), fun _ => ⟨rfl, rfl⟩⟩
  case round =>
    obtain ⟨k, L, c, oc, hk, rfl, rfl, HR, HC, HB⟩ := hrel
    have HXB := Lib.hid (HX.out.after HB.out)
    obtain ⟨q0, q1, q2, q3, q4, q5, q6, q7⟩ := id HXB.out
    by_cases hlt : k < blen N2
    · obtain ⟨xb, xo, rfl, hcell⟩ := (HR2.out.after HB.out) (by omega)
      have hck := hcell k hlt
      unfold bitV at hck
      have hkn : (k : Int) < ((blen N2 : Nat) : Int) := by omega
      have zb := HB.out.size
      clear hcell
      rcases bit_cases N2 k with ⟨e0, e1⟩ | ⟨e0, e1⟩
      · rw [e0] at hck
        have hM := mul_zero_bit N1 e1
        have HM := Lib.hid hM
        have HLT := Lib.hid hlt
        clear hM e0 e1 hlt
        go_wp2_with fail
        have hlt := HLT.out
        go_roundw
        case rel =>
          obtain ⟨f1, f2, f3, f4, f5, f6⟩ := HC.out
          exact ⟨k + 1, L, c, oc, by omega, by go_num, rfl, (by show RowAt _ _ _ _; rw [HM.out]; exact HR.out), (by show _ ∧ _; rw [HM.out]; exact ⟨f1, by omega, f3, f4, f5, f6⟩), HB⟩
        case measure => simp [intOf]; omega
      · rw [e0] at hck
        have HM := Lib.hid (mul_one_bit N1 e1)
        have hmk := run_make (P := Try.prog) wr 27 3 i0 (.int .i64 0) Try.underlying27 hi hz0 .i64 .i64 (k : Nat) (k : Nat) (by omega) (Int.le_refl _) (by rw [hz2]; omega) (by omega)
        rw [hz1, Nat.mul_one, Int.toNat_natCast, show (Value.int .i64 0).cells = #[.int .i64 0] from rfl, made_bits N1 k] at hmk
        have hlit := World.ownsRow_lit (base := wr.heap.size) (e := 3) (size := 1) wr (someBits (N1 * 2 ^ k) k).toArray k (Nat.le_refl _) (by unfold maxLen; omega) (by simp [someBits_len])
        have HLI := Lib.hid hlit
        have HRA := Lib.hid ((HR1.out.after HB.out).after (w' := wr.alloc (.cells (someBits (N1 * 2 ^ k) k).toArray 3)) ((Below.refl _ _).alloc (Nat.le_refl _) _))
        have q1' : (wr.alloc (.cells (someBits (N1 * 2 ^ k) k).toArray 3)).cell? ⟨w.heap.size, 1, none⟩ = some (.slice a (blen N1) cap) := below_cell ((Below.refl _ _).alloc (Nat.le_refl _) _) q1
        have HLT := Lib.hid hlt
        clear e0 e1 hlt hlit
        go_wp2_with (at_builtin; refine wpl_append_row rfl _ _ rfl wr.heap.size k (someBits (N1 * 2 ^ k) k) rfl HLI.out a cap (blen N1) (bitV N1) (fun i => ⟨_, rfl⟩) rfl HRA.out (by simp) (by omega) ?_; intro v' w1 hown' hb1)
        rw [shift_bits] at hown'
        obtain ⟨c1, cap1, rfl, g1, g2, g3, g4, g5⟩ := owned_wide hown'
        have hbw : Below wr.heap.size wr w1 := ((Below.refl _ _).alloc (Nat.le_refl _) _).trans hb1
        have HPL := Lib.hid (plus_wide c c1 oc cap1 (N1 * (N2 % 2 ^ k)) (N1 * 2 ^ k) L (k + blen N1) (blen N1 + k + 1) w1 (HR.out.after hbw) g3 HC.out.1 (shift_len N1 k) HC.out.2.1 (by omega) (by omega))
        rw [← HM.out] at HPL
        clear hmk q1' g1 g2 g3 g4 g5 hown' hb1 q0 q1 q2 q3 q4 q5 q6 q7
        go_wp2_with fail
        with_reducible refine HPL.out.mono ?_
        rintro e w5 ⟨c5, L5, cap5, rfl, g1, g2, g3, g4, g5, g6, g7, g8⟩
        have hb5 : Below wa.heap.size wa w5 := (HB.out.trans (hbw.mono zb)).trans (g6.mono (Nat.le_trans zb hbw.size))
        have zw := hbw.size
        have hlt := HLT.out
        have HC5 : Hid (blen (N1 * (N2 % 2 ^ (k + 1))) ≤ L5 ∧ L5 ≤ blen N1 + (k + 1) + 1 ∧ L5 ≤ cap5 ∧ cap5 ≤ maxLen ∧ (∀ x, c5 = some x → wa.heap.size ≤ x.block) ∧ (c5 = none → L5 = 0 ∧ cap5 = 0)) := ⟨g1, by omega, g3, g4, (fun x e => by have := g7 x e; omega), g8⟩
        have HR5 := Lib.hid g5
        have HB5 := Lib.hid hb5
        clear g1 g2 g3 g4 g5 g6 g7 g8 hb5
        go_wp2_with fail
        go_roundw
        case rel => exact ⟨k + 1, L5, c5, cap5, by omega, by go_num, rfl, HR5, HC5, HB5⟩
        case measure => simp [intOf]; omega
    · obtain rfl : k = blen N2 := by omega
      have eM : N2 % 2 ^ blen N2 = N2 := Nat.mod_eq_of_lt (blen_le.1 (Nat.le_refl _))
      rw [eM] at HR HC
      obtain ⟨M, hM⟩ : ∃ M, N1 * N2 = M := ⟨_, rfl⟩
      rw [hM] at HR HC HSG HNA
      clear hM eM
      obtain ⟨f1, f2, f3, f4, f5, f6⟩ := HC.out
      have HFR := Lib.hid f5
      have HBG : ∀ {r : Bool}, r = ((s != t) && decide (0 < blen M)) → BigAt wr (z1 * z2) r c (blen M) oc := fun hr' => ⟨by rw [hr', HSG.out], by rw [HNA.out], by omega, f4, by rw [HNA.out]; exact HR.out.take f1⟩
      have HBG := Lib.hid (fun (r : Bool) (h : r = ((s != t) && decide (0 < blen M))) => HBG (r := r) h)
      have HBW : Hid (Below w.heap.size w wr) := HAL.out.trans (HB.out.mono (by have := HSZ.out; omega))
      have HTR := Lib.hid (trim_bits c L oc M wr HR.out f1 (by omega) f3 f4 f6)
      clear HR HC f1 f2 f3 f4 f5 f6
      go_wp2_with fail
      with_reducible refine HTR.out.mono ?_
      rintro e w5 ⟨rfl, rfl⟩
      have n0 : w.heap.size ≠ w.heap.size + 1 + 1 := by omega
      have n1 : w.heap.size + 1 ≠ w.heap.size + 1 + 1 := by omega
      cases s <;> cases t
      · go_wp2_with fail
        refine bodyPost_ret (v := .agg #[.bool false, .slice c (blen M) oc]) ?_ rfl ?_
        · simp [results, Try.results13, go_sem, q4, q5]
        · obtain ⟨k1, k2⟩ := add_end (B := w.heap.size + 1 + 1) (HBG.out false (by simp; try omega)) (by omega) HBW.out (fun x e => by have := HFR.out x e; have := HSZ.out; omega)
          exact ⟨_, _, _, _, rfl, k1, k2, fun x e => by have := HFR.out x e; have := HSZ.out; omega⟩
      · by_cases hl0 : 0 < blen M
        · go_wp2_with fail
          refine bodyPost_ret (v := .agg #[.bool true, .slice c (blen M) oc]) ?_ rfl ?_
          · simp [results, Try.results13, go_sem, q4, q5]
          · obtain ⟨k1, k2⟩ := add_end (B := w.heap.size + 1 + 1) (HBG.out true (by simp; try omega)) (by omega) HBW.out (fun x e => by have := HFR.out x e; have := HSZ.out; omega)
            exact ⟨_, _, _, _, rfl, k1, k2, fun x e => by have := HFR.out x e; have := HSZ.out; omega⟩
        · go_wp2_with fail
          refine bodyPost_ret (v := .agg #[.bool false, .slice c (blen M) oc]) ?_ rfl ?_
          · simp [results, Try.results13, go_sem, q4, q5]
          · obtain ⟨k1, k2⟩ := add_end (B := w.heap.size + 1 + 1) (HBG.out false (by simp; try omega)) (by omega) HBW.out (fun x e => by have := HFR.out x e; have := HSZ.out; omega)
            exact ⟨_, _, _, _, rfl, k1, k2, fun x e => by have := HFR.out x e; have := HSZ.out; omega⟩
      · by_cases hl0 : 0 < blen M
        · go_wp2_with fail
          refine bodyPost_ret (v := .agg #[.bool true, .slice c (blen M) oc]) ?_ rfl ?_
          · simp [results, Try.results13, go_sem, q4, q5]
          · obtain ⟨k1, k2⟩ := add_end (B := w.heap.size + 1 + 1) (HBG.out true (by simp; try omega)) (by omega) HBW.out (fun x e => by have := HFR.out x e; have := HSZ.out; omega)
            exact ⟨_, _, _, _, rfl, k1, k2, fun x e => by have := HFR.out x e; have := HSZ.out; omega⟩
        · go_wp2_with fail
          refine bodyPost_ret (v := .agg #[.bool false, .slice c (blen M) oc]) ?_ rfl ?_
          · simp [results, Try.results13, go_sem, q4, q5]
          · obtain ⟨k1, k2⟩ := add_end (B := w.heap.size + 1 + 1) (HBG.out false (by simp; try omega)) (by omega) HBW.out (fun x e => by have := HFR.out x e; have := HSZ.out; omega)
            exact ⟨_, _, _, _, rfl, k1, k2, fun x e => by have := HFR.out x e; have := HSZ.out; omega⟩
      · go_wp2_with fail
        refine bodyPost_ret (v := .agg #[.bool false, .slice c (blen M) oc]) ?_ rfl ?_
        · simp [results, Try.results13, go_sem, q4, q5]
        · obtain ⟨k1, k2⟩ := add_end (B := w.heap.size + 1 + 1) (HBG.out false (by simp; try omega)) (by omega) HBW.out (fun x e => by have := HFR.out x e; have := HSZ.out; omega)
          exact ⟨_, _, _, _, rfl, k1, k2, fun x e => by have := HFR.out x e; have := HSZ.out; omega⟩

end Go.Proofs.Ytncodoaphfeefaa
