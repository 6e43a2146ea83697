/- The reference's numbers as bits (package chattelref01): Near. -/
import Derived.Test.YtncodoaphfeefaaRefM
import Derived.Test.YtncodoaphfeefaaRefF
import Derived.Test.YtncodoaphfeefaaRefC
import Derived.Test.YtncodoaphfeefaaDivA
namespace Go.Proofs.Ytncodoaphfeefaa
open Go.RowKit
set_option linter.unusedVariables false
set_option linter.unusedSimpArgs false

theorem near_up {p n : Nat} : (0 < ordN (p % n + p % n) n → nearN p n = p / n + 1) ∧ (ordN (p % n + p % n) n = 0 → bitAt (p / n) 0 = 1 → nearN p n = p / n + 1) ∧ (ordN (p % n + p % n) n = 0 → bitAt (p / n) 0 ≠ 1 → nearN p n = p / n) ∧ (ordN (p % n + p % n) n < 0 → nearN p n = p / n) := by
  unfold nearN ordN bitAt
  rw [Nat.pow_zero, Nat.div_one]
  refine ⟨fun h => ?_, fun h g => ?_, fun h g => ?_, fun h => ?_⟩
  · rw [if_pos (Or.inl (by split at h <;> (try split at h) <;> omega))]
  · rw [if_pos (Or.inr ⟨by split at h <;> (try split at h) <;> omega, by omega⟩)]
  · rw [if_neg (by split at h <;> (try split at h) <;> omega)]
    rfl
  · rw [if_neg (by split at h <;> (try split at h) <;> omega)]
    rfl
theorem near_sign {z1 z2 : Int} : decide (roundZ z1 z2 < 0) = ((decide (z1 < 0) != decide (z2 < 0)) && decide (0 < blen (nearN z1.natAbs z2.natAbs))) ∧ (roundZ z1 z2).natAbs = nearN z1.natAbs z2.natAbs := by
  have h1 := @blen_eq_zero (nearN z1.natAbs z2.natAbs)
  unfold roundZ
  by_cases h : decide (z1 < 0) = decide (z2 < 0)
  · rw [if_pos h, h]
    exact ⟨by simp, by omega⟩
  · rw [if_neg h]
    refine ⟨?_, by omega⟩
    have h2 : (decide (z1 < 0) != decide (z2 < 0)) = true := by simpa using h
    rw [h2, Bool.true_and]
    rw [decide_eq_decide]
    omega

theorem AddBox.below {w w' : World} {B N : Nat} {s t : Bool} {a a' : Option Addr} {l l' cap cap' : Nat} (h : AddBox w B s t a a' l l' cap cap') (hb : Below N w w') (hN : B + 1 + 1 < N) : AddBox w' B s t a a' l l' cap cap' :=
  ⟨(World.cell?_of_block (hb.block B (by omega))).trans h.c0, (World.cell?_of_block (hb.block B (by omega))).trans h.c1, (World.cell?_of_block (hb.block (B + 1) (by omega))).trans h.d0, (World.cell?_of_block (hb.block (B + 1) (by omega))).trans h.d1, (World.cell?_of_block (hb.block (B + 1 + 1) (by omega))).trans h.r0, (World.cell?_of_block (hb.block (B + 1 + 1) (by omega))).trans h.r1, (World.frozen?_of_block (hb.block (B + 1 + 1) (by omega))).trans h.f0, (World.frozen?_of_block (hb.block (B + 1 + 1) (by omega))).trans h.f1⟩
theorem near_end {w W : World} {QB NE nc : Nat} {Z : Int} {sg : Bool} {na : Option Addr} (hQ : w.heap.size + 3 ≤ QB) (hb : Below w.heap.size w W) (hs : sg = decide (Z < 0)) (hz : Z.natAbs = NE) (hr : RowAt W na (blen NE) (bitV NE)) (h1 : blen NE ≤ nc) (h2 : nc ≤ maxLen)
    (F : ∀ x, na = some x → w.heap.size + 3 ≤ x.block ∧ (0 < blen NE → x.block ≠ QB)) :
    BigEnd Z w (.returned (.agg #[.bool sg, .slice na (blen NE) nc])) (((W.setCell ⟨QB, 0, none⟩ (.bool sg)).setCell ⟨w.heap.size + 1 + 1, 0, none⟩ (.bool sg)).setCell ⟨w.heap.size + 1 + 1, 1, none⟩ (.slice na (blen NE) nc)) := by
  refine ⟨sg, na, blen NE, nc, rfl, ⟨hs, by rw [hz], h1, h2, ?_⟩, ?_, fun x e => by have := (F x e).1; omega⟩
  · rw [hz]
    by_cases h0 : 0 < blen NE
    · exact ((hr.far (fun x e => (F x e).2 h0)).far (fun x e => by have := (F x e).1; omega)).far (fun x e => by have := (F x e).1; omega)
    · exact fun h => absurd h h0
  · exact ((hb.setCell (p := ⟨QB, 0, none⟩) (by show _ ≤ QB; omega) _).setCell (p := ⟨w.heap.size + 1 + 1, 0, none⟩) (by show _ ≤ _ + _; omega) _).setCell (p := ⟨w.heap.size + 1 + 1, 1, none⟩) (by show _ ≤ _ + _; omega) _
theorem plus_len (x y : Nat) : blen (x + y) ≤ blen x + blen y + 1 := by
  refine blen_le.2 ?_
  have h1 := blen_le.1 (Nat.le_refl (blen x))
  have h2 := blen_le.1 (Nat.le_refl (blen y))
  have h3 : 2 ^ blen x ≤ 2 ^ (blen x + blen y) := Nat.pow_le_pow_right (by omega) (by omega)
  have h4 : 2 ^ blen y ≤ 2 ^ (blen x + blen y) := Nat.pow_le_pow_right (by omega) (by omega)
  rw [Nat.pow_succ]
  omega


set_option maxHeartbeats 2000000 in
set_option maxRecDepth 100000 in
theorem near_big (z1 z2 : Int) (s t : Bool) (a a' : Option Addr) (l l' cap cap' : Nat) (w : World) (h1 : BigAt w z1 s a l cap) (h2 : BigAt w z2 t a' l' cap') (b1 : blen z1.natAbs ≤ 4000) (b2 : blen z2.natAbs ≤ 4000) (hz : z2 ≠ 0) :
    Calls Try.prog 12 #[.agg #[.bool s, .slice a l cap], .agg #[.bool t, .slice a' l' cap']] w (BigEnd (roundZ z1 z2) w) := by
  have hx : AddBox (((w.alloc (.cells #[.bool s, .slice a l cap] 29)).alloc (.cells #[.bool t, .slice a' l' cap'] 29)).alloc (.cells #[.bool false, .slice none 0 0] 29)) w.heap.size s t a a' l l' cap cap' := ⟨by go_simp, by go_simp, by go_simp, by go_simp, by go_simp, by go_simp, by go_simp, by go_simp⟩
  obtain ⟨wa, hwa⟩ : ∃ wa, (((w.alloc (.cells #[.bool s, .slice a l cap] 29)).alloc (.cells #[.bool t, .slice a' l' cap'] 29)).alloc (.cells #[.bool false, .slice none 0 0] 29)) = wa := ⟨_, rfl⟩
  have hal : Below w.heap.size w wa := by rw [← hwa]; exact (((Below.refl _ _).alloc (Nat.le_refl _) _).alloc (by simp) _).alloc (by simp; omega) _
  rw [hwa] at hx
  have hsz : wa.heap.size = w.heap.size + 1 + 1 + 1 := by rw [← hwa]; simp
  have HSZ := Lib.hid hsz
  have HX := Lib.hid hx
  have HAL := Lib.hid hal
  have HP := Lib.hid (parts_big z1 z2 s t a a' l l' cap cap' wa (h1.after hal) (h2.after hal) (by omega) (by omega) hz)
  obtain ⟨g1, g2⟩ := near_sign (z1 := z1) (z2 := z2)
  obtain ⟨hs, hl, hc, hm, hr⟩ := h1
  obtain ⟨ht, hl', hc', hm', hr'⟩ := h2
  rw [← hs, ← ht] at g1
  obtain ⟨Z, hZ⟩ : ∃ Z, roundZ z1 z2 = Z := ⟨_, rfl⟩
  rw [hZ] at g1 g2 ⊢
  obtain ⟨N, hN⟩ : ∃ N, z1.natAbs = N := ⟨_, rfl⟩
  obtain ⟨D, hD⟩ : ∃ N, z2.natAbs = N := ⟨_, rfl⟩
  have HD0 : Hid (0 < D) := by show _ < _; omega
  rw [hN] at HP g1 g2 b1
  rw [hD] at HP g1 g2 hr' hl' b2
  subst hl'
  have HRD := Lib.hid (hr'.after hal)
  have HNU := Lib.hid (near_up (p := N) (n := D))
  have hQ : N / D ≤ N := Nat.div_le_self _ _
  have hR : N % D ≤ D := Nat.le_of_lt (Nat.mod_lt _ HD0.out)
  have hQl := Nat.le_trans (blen_mono hQ) b1
  have hRl := Nat.le_trans (blen_mono hR) b2
  obtain ⟨Q, hQe⟩ : ∃ Q, N / D = Q := ⟨_, rfl⟩
  obtain ⟨R, hRe⟩ : ∃ R, N % D = R := ⟨_, rfl⟩
  obtain ⟨NE, hNE⟩ : ∃ R, nearN N D = R := ⟨_, rfl⟩
  rw [hNE] at g1 g2 HNU
  rw [hQe, hRe] at HP HNU
  rw [hQe] at hQl
  rw [hRe] at hRl
  have G1 := Lib.hid g1
  have G2 := Lib.hid g2
  clear hs ht hr hr' hx hsz hal hz hZ hN hD hQ hR hQe hRe hNE hm hm' hc hc' hl g1 g2
  obtain ⟨q0, q1, q2, q3, q4, q5, q6, q7⟩ := id HX.out
  go_enter Try.func12, Try.ntmps12
  go_wp2_with fail
  try rw [hwa]
  with_reducible refine HP.out.mono ?_
  rintro e w3 ⟨qa, ql, qc, ra, rl, rc, rfl, hq, hr, hb3, fq, fr⟩
  obtain ⟨x1, rfl, e1, e2, e3⟩ := hq
  obtain ⟨x2, rfl, e4, e5, e6⟩ := hr
  clear x1 x2
  simp only [Int.natAbs_natCast] at e1 e3 e4 e6
  clear q0 q1 q2 q3 q4 q5 q6 q7 hwa
  have HX3 := Lib.hid (HX.out.after hb3)
  go_wp2_with fail
  obtain ⟨w4, hw4⟩ : ∃ w4, (w3.alloc (.cells #[.bool false, .slice qa (blen Q) qc] 29)).alloc (.cells #[.bool false, .slice ra (blen R) rc] 29) = w4 := ⟨_, rfl⟩
  have kq : Blk w4 w3.heap.size #[.bool false, .slice qa (blen Q) qc] 29 := by rw [← hw4]; exact (Blk.new _ _ _).alloc _
  have kr : Blk w4 (w3.heap.size + 1) #[.bool false, .slice ra (blen R) rc] 29 := by
    have := Blk.new (w3.alloc (.cells #[.bool false, .slice qa (blen Q) qc] 29)) #[.bool false, .slice ra (blen R) rc] 29
    rw [hw4] at this
    simpa using this
  have hb4 : Below w3.heap.size w3 w4 := by rw [← hw4]; exact ((Below.refl _ _).alloc (Nat.le_refl _) _).alloc (by simp) _
  have z4 : w4.heap.size = w3.heap.size + 1 + 1 := by rw [← hw4]; simp
  rw [hw4]
  have hx4 := HX3.out.after hb4
  have hrr := e6.after hb4
  have hrd := (HRD.out.after hb3).after hb4
  have hrq := e3.after hb4
  have HRQ := Lib.hid hrq
  have KQ := Lib.hid kq
  have KR := Lib.hid kr
  have HX4 := Lib.hid hx4
  have F1 : Hid (∀ x, qa = some x → wa.heap.size ≤ x.block ∧ (0 < blen Q → x.block ≠ w3.heap.size)) := fun x e => ⟨fq x e, fun h0 => by
    obtain ⟨b, o, e', hlt⟩ := e3.lt h0
    rw [e] at e'
    cases e'
    show b ≠ _
    omega⟩
  have HB4 : Hid (Below w.heap.size w w4) := HAL.out.trans ((hb3.trans (hb4.mono hb3.size)).mono HAL.out.size)
  have E1 := Lib.hid (show blen Q ≤ qc ∧ qc ≤ maxLen from ⟨e1, e2⟩)
  have Z3 := hb3.size
  have za := HSZ.out
  have c4 := kr.cell 1 rfl
  have d4 := hx4.d1
  clear hw4 hb4 hb3 HX3 fq fr e1 e2 e3 e4 e5 e6 HP HX HRD HAL kq kr hx4 hrq
  have hf4 : w4.cell? ⟨w3.heap.size + 1, 1, none⟩ = some (.slice ra (blen R) rc) ∧ w4.cell? ⟨w.heap.size + 1, 1, none⟩ = some (.slice a' (blen D) cap') := ⟨c4, d4⟩
  have hf4' : w4.drew.cell? ⟨w3.heap.size + 1, 1, none⟩ = some (.slice ra (blen R) rc) ∧ w4.drew.cell? ⟨w.heap.size + 1, 1, none⟩ = some (.slice a' (blen D) cap') := ⟨c4, d4⟩
  have HF4 := Lib.hid hf4
  have HF4' := Lib.hid hf4'
  have HRR := Lib.hid hrr.drew
  have HRDD := Lib.hid hrd.drew
  clear hf4 hf4' hrr hrd c4 d4
  go_region_held3 (fun w' => w'.cell? ⟨w3.heap.size + 1, 1, none⟩ = some (.slice ra (blen R) rc) ∧ w'.cell? ⟨w.heap.size + 1, 1, none⟩ = some (.slice a' (blen D) cap'))
    (first | with_reducible exact HF4.out | with_reducible exact HF4'.out | with_reducible exact HF5.out | with_reducible exact HF6.out)
    (first
    | (go_at_call 31; refine (plus_bits ra ra rc rc R R _ HRR.out HRR.out (by omega) (by omega)).mono ?_; rintro e w5 ⟨c5, cap5, rfl, g1, g2, g3, g4, g5⟩; have HF5 : Hid (w5.cell? ⟨w3.heap.size + 1, 1, none⟩ = some (.slice ra (blen R) rc) ∧ w5.cell? ⟨w.heap.size + 1, 1, none⟩ = some (.slice a' (blen D) cap')) := ⟨(KR.out.drew.after g4).cell 1 rfl, ((HX4.out.after ((Below.refl _ _).drew)).after g4).d1⟩; have G3 := Lib.hid g3; have G4 := Lib.hid g4; clear g1 g2 g3 g4 g5)
    | (go_at_call 30; refine (order_bits c5 a' cap5 cap' (R + R) D _ G3.out (HRDD.out.after G4.out) (by have := plus_len R R; omega) (by omega)).mono ?_; rintro e w6 ⟨rfl, b6⟩; have HF6 : Hid (w6.cell? ⟨w3.heap.size + 1, 1, none⟩ = some (.slice ra (blen R) rc) ∧ w6.cell? ⟨w.heap.size + 1, 1, none⟩ = some (.slice a' (blen D) cap')) := ⟨below_cell b6 HF5.out.1, below_cell b6 HF5.out.2⟩))
  have h46 : Below w4.heap.size w4 w6 := (((Below.refl _ _).drew).trans G4.out).trans (b6.mono G4.out.size)
  have kq := KQ.out.after h46
  have hx6 := HX4.out.after h46
  have HRQ6 := Lib.hid (HRQ.out.after h46)
  have KQ6 := Lib.hid kq
  have HX6 := Lib.hid hx6
  have HB6 : Hid (Below w.heap.size w w6) := HB4.out.trans (h46.mono HB4.out.size)
  have z6 := h46.size
  obtain ⟨o, ho⟩ : ∃ o, ordN (R + R) D = o := ⟨_, rfl⟩
  rw [ho] at HNU ⊢
  clear HF5 HF6 HF4 HF4' G3 G4 KQ KR HX4 HRR HRDD HRQ HB4 b6 ho kq hx6 h46
  have qc0 : w6.cell? ⟨w3.heap.size, 0, none⟩ = some (.bool false) := KQ6.out.cell 0 rfl
  have qc1 : w6.cell? ⟨w3.heap.size, 1, none⟩ = some (.slice qa (blen Q) qc) := KQ6.out.cell 1 rfl
  have zq : w3.heap.size < w6.heap.size := by omega
  have HBQ : Hid (BigAt w6 (Q : Int) false qa (blen Q) qc) := ⟨(decide_eq_false (by omega)).symm, rfl, E1.out.1, E1.out.2, HRQ6.out⟩
  have HAT : Hid (Calls Try.prog 32 #[.slice qa (blen Q) qc, .int .i64 0] w6 fun e w' => e = .returned (.int .i64 (bitAt Q 0)) ∧ w6 = w') := at_bits qa qc Q 0 w6 HRQ6.out (by omega)
  have hbt : bitAt Q 0 = 0 ∨ bitAt Q 0 = 1 := by rcases bit_cases Q 0 with h | h; exact Or.inl h.1; exact Or.inr h.1
  have Z6 := Lib.hid z6
  have HQW : Hid (w.heap.size + 3 ≤ w3.heap.size) := by show _ ≤ _; omega
  have HEQ := E1
  have F1' : Hid (∀ x, qa = some x → w.heap.size + 3 ≤ x.block ∧ (0 < blen Q → x.block ≠ w3.heap.size)) := fun x e => ⟨by have := (F1.out x e).1; omega, (F1.out x e).2⟩
  have qf0 : w6.frozen? ⟨w3.heap.size, 0, none⟩ = false := KQ6.out.free 0
  have qf1 : w6.frozen? ⟨w3.heap.size, 1, none⟩ = false := KQ6.out.free 1
  clear z6 z4 E1 F1
  rcases Int.lt_trichotomy o 0 with ho | ho | ho
  · have hNE := (HNU.out.2.2.2 ho).symm
    subst hNE
    have ho' : decide (0 < o) = false := decide_eq_false (by omega)
    have ho2 : (o == 0) = false := by simp; omega
    clear hbt ho HAT HNU
    have XW := HX6
    have HRW := HRQ6
    have HEW := HEQ
    have HFW := F1'
    have HBW := HB6
    obtain ⟨p0, p1, p2, p3, p4, p5, p6, p7⟩ := id XW.out
    have n0 : w.heap.size ≠ w3.heap.size := by have := HQW.out; omega
    have n1 : w.heap.size + 1 ≠ w3.heap.size := by have := HQW.out; omega
    have n2 : w.heap.size + 1 + 1 ≠ w3.heap.size := by have := HQW.out; omega
    have n3 : w3.heap.size ≠ w.heap.size + 1 + 1 := fun e => n2 e.symm
    cases s <;> cases t
    · go_wp2_with fail
      refine bodyPost_ret (v := .agg #[.bool false, .slice qa (blen (Q)) qc]) ?_ rfl ?_
      · simp [results, Try.results12, go_sem, p4, p5, n2, n3]
      · exact near_end HQW.out HBW.out (by rw [G1.out]; simp; try omega) G2.out HRW.out HEW.out.1 HEW.out.2 HFW.out
    · by_cases hl0 : 0 < blen (Q)
      · go_wp2_with fail
        refine bodyPost_ret (v := .agg #[.bool true, .slice qa (blen (Q)) qc]) ?_ rfl ?_
        · simp [results, Try.results12, go_sem, p4, p5, n2, n3]
        · exact near_end HQW.out HBW.out (by rw [G1.out]; simp; try omega) G2.out HRW.out HEW.out.1 HEW.out.2 HFW.out
      · go_wp2_with fail
        refine bodyPost_ret (v := .agg #[.bool false, .slice qa (blen (Q)) qc]) ?_ rfl ?_
        · simp [results, Try.results12, go_sem, p4, p5, n2, n3]
        · exact near_end HQW.out HBW.out (by rw [G1.out]; simp; try omega) G2.out HRW.out HEW.out.1 HEW.out.2 HFW.out
    · by_cases hl0 : 0 < blen (Q)
      · go_wp2_with fail
        refine bodyPost_ret (v := .agg #[.bool true, .slice qa (blen (Q)) qc]) ?_ rfl ?_
        · simp [results, Try.results12, go_sem, p4, p5, n2, n3]
        · exact near_end HQW.out HBW.out (by rw [G1.out]; simp; try omega) G2.out HRW.out HEW.out.1 HEW.out.2 HFW.out
      · go_wp2_with fail
        refine bodyPost_ret (v := .agg #[.bool false, .slice qa (blen (Q)) qc]) ?_ rfl ?_
        · simp [results, Try.results12, go_sem, p4, p5, n2, n3]
        · exact near_end HQW.out HBW.out (by rw [G1.out]; simp; try omega) G2.out HRW.out HEW.out.1 HEW.out.2 HFW.out
    · go_wp2_with fail
      refine bodyPost_ret (v := .agg #[.bool false, .slice qa (blen (Q)) qc]) ?_ rfl ?_
      · simp [results, Try.results12, go_sem, p4, p5, n2, n3]
      · exact near_end HQW.out HBW.out (by rw [G1.out]; simp; try omega) G2.out HRW.out HEW.out.1 HEW.out.2 HFW.out
  · subst ho
    rcases hbt with hbt | hbt
    · have hNE := (HNU.out.2.2.1 rfl (by omega)).symm
      subst hNE
      rw [hbt] at HAT
      clear HNU hbt
      go_wp2_with fail
      with_reducible refine HAT.out.mono ?_
      rintro e w7 ⟨rfl, rfl⟩
      have XW := HX6
      have HRW := HRQ6
      have HEW := HEQ
      have HFW := F1'
      have HBW := HB6
      obtain ⟨p0, p1, p2, p3, p4, p5, p6, p7⟩ := id XW.out
      have n0 : w.heap.size ≠ w3.heap.size := by have := HQW.out; omega
      have n1 : w.heap.size + 1 ≠ w3.heap.size := by have := HQW.out; omega
      have n2 : w.heap.size + 1 + 1 ≠ w3.heap.size := by have := HQW.out; omega
      have n3 : w3.heap.size ≠ w.heap.size + 1 + 1 := fun e => n2 e.symm
      cases s <;> cases t
      · go_wp2_with fail
        refine bodyPost_ret (v := .agg #[.bool false, .slice qa (blen (Q)) qc]) ?_ rfl ?_
        · simp [results, Try.results12, go_sem, p4, p5, n2, n3]
        · exact near_end HQW.out HBW.out (by rw [G1.out]; simp; try omega) G2.out HRW.out HEW.out.1 HEW.out.2 HFW.out
      · by_cases hl0 : 0 < blen (Q)
        · go_wp2_with fail
          refine bodyPost_ret (v := .agg #[.bool true, .slice qa (blen (Q)) qc]) ?_ rfl ?_
          · simp [results, Try.results12, go_sem, p4, p5, n2, n3]
          · exact near_end HQW.out HBW.out (by rw [G1.out]; simp; try omega) G2.out HRW.out HEW.out.1 HEW.out.2 HFW.out
        · go_wp2_with fail
          refine bodyPost_ret (v := .agg #[.bool false, .slice qa (blen (Q)) qc]) ?_ rfl ?_
          · simp [results, Try.results12, go_sem, p4, p5, n2, n3]
          · exact near_end HQW.out HBW.out (by rw [G1.out]; simp; try omega) G2.out HRW.out HEW.out.1 HEW.out.2 HFW.out
      · by_cases hl0 : 0 < blen (Q)
        · go_wp2_with fail
          refine bodyPost_ret (v := .agg #[.bool true, .slice qa (blen (Q)) qc]) ?_ rfl ?_
          · simp [results, Try.results12, go_sem, p4, p5, n2, n3]
          · exact near_end HQW.out HBW.out (by rw [G1.out]; simp; try omega) G2.out HRW.out HEW.out.1 HEW.out.2 HFW.out
        · go_wp2_with fail
          refine bodyPost_ret (v := .agg #[.bool false, .slice qa (blen (Q)) qc]) ?_ rfl ?_
          · simp [results, Try.results12, go_sem, p4, p5, n2, n3]
          · exact near_end HQW.out HBW.out (by rw [G1.out]; simp; try omega) G2.out HRW.out HEW.out.1 HEW.out.2 HFW.out
      · go_wp2_with fail
        refine bodyPost_ret (v := .agg #[.bool false, .slice qa (blen (Q)) qc]) ?_ rfl ?_
        · simp [results, Try.results12, go_sem, p4, p5, n2, n3]
        · exact near_end HQW.out HBW.out (by rw [G1.out]; simp; try omega) G2.out HRW.out HEW.out.1 HEW.out.2 HFW.out
    · have hNE := (HNU.out.2.1 rfl hbt).symm
      subst hNE
      rw [hbt] at HAT
      clear HNU hbt
      go_wp2_with fail
      with_reducible refine HAT.out.mono ?_
      rintro e w7 ⟨rfl, rfl⟩
      obtain ⟨p0, p1, p2, p3, p4, p5, p6, p7⟩ := id HX6.out
      go_wp2_with fail
      go_region_with (first
        | (go_at_call 14; refine (of_big 1 (by omega) (by omega) _).mono ?_; rintro e w7 ⟨s7, a7, l7, cap7, rfl, hB7, hb7, hf7⟩; have qd0 := below_cell hb7 qc0; have qd1 := below_cell hb7 qc1; have qh0 := below_frozen hb7 qc0 qf0; have qh1 := below_frozen hb7 qc1 qf1)
        | (go_at_call 24; refine (add_big (Q : Int) 1 false s7 qa a7 (blen Q) l7 qc cap7 _ ((HBQ.out.after ((Below.refl _ _).drew)).after hb7) hB7 (by simp; omega) (by simp; decide)).mono ?_; rintro e w8 ⟨s8, a8, l8, cap8, rfl, hB8, hb8, hf8⟩; have qe0 := below_cell hb8 qd0; have qe1 := below_cell hb8 qd1; have qg0 := below_frozen hb8 qd0 qh0; have qg1 := below_frozen hb8 qd1 qh1))
      all_goals
        obtain ⟨x8, rfl, e81, e82, e83⟩ := hB8
        have hna : ((Q : Int) + 1).natAbs = Q + 1 := by omega
        obtain rfl : s8 = false := by rw [x8]; exact decide_eq_false (by omega)
        rw [hna] at e81 e83
        rw [hna]
        have h68 : Below w6.heap.size w6 w8 := (((Below.refl _ _).drew).trans hb7).trans (hb8.mono hb7.size)
        have hfar : ∀ x, a8 = some x → w3.heap.size < x.block := fun x e => by
          have h1 := hf8 x e
          have h2 := hb7.size
          have h3 : w6.drew.heap.size = w6.heap.size := rfl
          omega
        obtain ⟨w9, hw9⟩ : ∃ w9, (w8.setCell ⟨w3.heap.size, 0, none⟩ (.bool false)).setCell ⟨w3.heap.size, 1, none⟩ (.slice a8 (blen (Q + 1)) cap8) = w9 := ⟨_, rfl⟩
        have XW : Hid (AddBox w9 w.heap.size s t a a' l (blen D) cap cap') := by
          show AddBox _ _ _ _ _ _ _ _ _ _
          rw [← hw9]
          exact (HX6.out.after h68).below (((Below.refl w3.heap.size w8).setCell (p := ⟨w3.heap.size, 0, none⟩) (Nat.le_refl _) _).setCell (p := ⟨w3.heap.size, 1, none⟩) (Nat.le_refl _) _) (by have := HQW.out; omega)
        have u0 : w9.cell? ⟨w3.heap.size, 0, none⟩ = some (.bool false) := by rw [← hw9]; exact (World.cell?_setCell_other _ _ _ _ (by simp)).trans (World.cell?_setCell_same _ _ _ qe0)
        have u1 : w9.cell? ⟨w3.heap.size, 1, none⟩ = some (.slice a8 (blen (Q + 1)) cap8) := by rw [← hw9]; exact World.cell?_setCell_same _ _ _ ((World.cell?_setCell_other _ _ _ _ (by simp)).trans qe1)
        have u2 : w9.frozen? ⟨w3.heap.size, 0, none⟩ = false := by rw [← hw9, World.frozen?_setCell, World.frozen?_setCell]; exact qg0
        have HBW : Hid (Below w.heap.size w w9) := by
          show Below _ _ _
          rw [← hw9]
          exact ((HB6.out.trans (h68.mono HB6.out.size)).setCell (p := ⟨w3.heap.size, 0, none⟩) (by show _ ≤ w3.heap.size; have := HQW.out; omega) _).setCell (p := ⟨w3.heap.size, 1, none⟩) (by show _ ≤ w3.heap.size; have := HQW.out; omega) _
        have HRW : Hid (RowAt w9 a8 (blen (Q + 1)) (bitV (Q + 1))) := by
          show RowAt _ _ _ _
          rw [← hw9]
          exact (e83.far (fun x e => by have := hfar x e; omega)).far (fun x e => by have := hfar x e; omega)
        have HEW := Lib.hid (show blen (Q + 1) ≤ cap8 ∧ cap8 ≤ maxLen from ⟨e81, e82⟩)
        have HFW : Hid (∀ x, a8 = some x → w.heap.size + 3 ≤ x.block ∧ (0 < blen (Q + 1) → x.block ≠ w3.heap.size)) := fun x e => ⟨by have := hfar x e; have := HQW.out; omega, fun _ => by have := hfar x e; omega⟩
        rw [hw9]
        clear hw9 hfar h68 hna e81 e82 e83 x8 qe0 qe1 qg0 qg1 qd0 qd1 qh0 qh1 hf8 hb8 hf7 hb7 hB7 qc0 qc1 qf0 qf1 p0 p1 p2 p3 p4 p5 p6 p7
        obtain ⟨p0, p1, p2, p3, p4, p5, p6, p7⟩ := id XW.out
        have n0 : w.heap.size ≠ w3.heap.size := by have := HQW.out; omega
        have n1 : w.heap.size + 1 ≠ w3.heap.size := by have := HQW.out; omega
        have n2 : w.heap.size + 1 + 1 ≠ w3.heap.size := by have := HQW.out; omega
        have n3 : w3.heap.size ≠ w.heap.size + 1 + 1 := fun e => n2 e.symm
        cases s <;> cases t
        · go_wp2_with fail
          refine bodyPost_ret (v := .agg #[.bool false, .slice a8 (blen (Q + 1)) cap8]) ?_ rfl ?_
          · simp [results, Try.results12, go_sem, p4, p5, n2, n3]
          · exact near_end HQW.out HBW.out (by rw [G1.out]; simp; try omega) G2.out HRW.out HEW.out.1 HEW.out.2 HFW.out
        · by_cases hl0 : 0 < blen (Q + 1)
          · go_wp2_with fail
            refine bodyPost_ret (v := .agg #[.bool true, .slice a8 (blen (Q + 1)) cap8]) ?_ rfl ?_
            · simp [results, Try.results12, go_sem, p4, p5, n2, n3]
            · exact near_end HQW.out HBW.out (by rw [G1.out]; simp; try omega) G2.out HRW.out HEW.out.1 HEW.out.2 HFW.out
          · go_wp2_with fail
            refine bodyPost_ret (v := .agg #[.bool false, .slice a8 (blen (Q + 1)) cap8]) ?_ rfl ?_
            · simp [results, Try.results12, go_sem, p4, p5, n2, n3]
            · exact near_end HQW.out HBW.out (by rw [G1.out]; simp; try omega) G2.out HRW.out HEW.out.1 HEW.out.2 HFW.out
        · by_cases hl0 : 0 < blen (Q + 1)
          · go_wp2_with fail
            refine bodyPost_ret (v := .agg #[.bool true, .slice a8 (blen (Q + 1)) cap8]) ?_ rfl ?_
            · simp [results, Try.results12, go_sem, p4, p5, n2, n3]
            · exact near_end HQW.out HBW.out (by rw [G1.out]; simp; try omega) G2.out HRW.out HEW.out.1 HEW.out.2 HFW.out
          · go_wp2_with fail
            refine bodyPost_ret (v := .agg #[.bool false, .slice a8 (blen (Q + 1)) cap8]) ?_ rfl ?_
            · simp [results, Try.results12, go_sem, p4, p5, n2, n3]
            · exact near_end HQW.out HBW.out (by rw [G1.out]; simp; try omega) G2.out HRW.out HEW.out.1 HEW.out.2 HFW.out
        · go_wp2_with fail
          refine bodyPost_ret (v := .agg #[.bool false, .slice a8 (blen (Q + 1)) cap8]) ?_ rfl ?_
          · simp [results, Try.results12, go_sem, p4, p5, n2, n3]
          · exact near_end HQW.out HBW.out (by rw [G1.out]; simp; try omega) G2.out HRW.out HEW.out.1 HEW.out.2 HFW.out
  · have hNE := (HNU.out.1 ho).symm
    subst hNE
    clear hbt HAT HNU
    obtain ⟨p0, p1, p2, p3, p4, p5, p6, p7⟩ := id HX6.out
    go_wp2_with fail
    go_region_with (first
      | (go_at_call 14; refine (of_big 1 (by omega) (by omega) _).mono ?_; rintro e w7 ⟨s7, a7, l7, cap7, rfl, hB7, hb7, hf7⟩; have qd0 := below_cell hb7 qc0; have qd1 := below_cell hb7 qc1; have qh0 := below_frozen hb7 qc0 qf0; have qh1 := below_frozen hb7 qc1 qf1)
      | (go_at_call 24; refine (add_big (Q : Int) 1 false s7 qa a7 (blen Q) l7 qc cap7 _ ((HBQ.out.after ((Below.refl _ _).drew)).after hb7) hB7 (by simp; omega) (by simp; decide)).mono ?_; rintro e w8 ⟨s8, a8, l8, cap8, rfl, hB8, hb8, hf8⟩; have qe0 := below_cell hb8 qd0; have qe1 := below_cell hb8 qd1; have qg0 := below_frozen hb8 qd0 qh0; have qg1 := below_frozen hb8 qd1 qh1))
    all_goals
      obtain ⟨x8, rfl, e81, e82, e83⟩ := hB8
      have hna : ((Q : Int) + 1).natAbs = Q + 1 := by omega
      obtain rfl : s8 = false := by rw [x8]; exact decide_eq_false (by omega)
      rw [hna] at e81 e83
      rw [hna]
      have h68 : Below w6.heap.size w6 w8 := (((Below.refl _ _).drew).trans hb7).trans (hb8.mono hb7.size)
      have hfar : ∀ x, a8 = some x → w3.heap.size < x.block := fun x e => by
        have h1 := hf8 x e
        have h2 := hb7.size
        have h3 : w6.drew.heap.size = w6.heap.size := rfl
        omega
      obtain ⟨w9, hw9⟩ : ∃ w9, (w8.setCell ⟨w3.heap.size, 0, none⟩ (.bool false)).setCell ⟨w3.heap.size, 1, none⟩ (.slice a8 (blen (Q + 1)) cap8) = w9 := ⟨_, rfl⟩
      have XW : Hid (AddBox w9 w.heap.size s t a a' l (blen D) cap cap') := by
        show AddBox _ _ _ _ _ _ _ _ _ _
        rw [← hw9]
        exact (HX6.out.after h68).below (((Below.refl w3.heap.size w8).setCell (p := ⟨w3.heap.size, 0, none⟩) (Nat.le_refl _) _).setCell (p := ⟨w3.heap.size, 1, none⟩) (Nat.le_refl _) _) (by have := HQW.out; omega)
      have u0 : w9.cell? ⟨w3.heap.size, 0, none⟩ = some (.bool false) := by rw [← hw9]; exact (World.cell?_setCell_other _ _ _ _ (by simp)).trans (World.cell?_setCell_same _ _ _ qe0)
      have u1 : w9.cell? ⟨w3.heap.size, 1, none⟩ = some (.slice a8 (blen (Q + 1)) cap8) := by rw [← hw9]; exact World.cell?_setCell_same _ _ _ ((World.cell?_setCell_other _ _ _ _ (by simp)).trans qe1)
      have u2 : w9.frozen? ⟨w3.heap.size, 0, none⟩ = false := by rw [← hw9, World.frozen?_setCell, World.frozen?_setCell]; exact qg0
      have HBW : Hid (Below w.heap.size w w9) := by
        show Below _ _ _
        rw [← hw9]
        exact ((HB6.out.trans (h68.mono HB6.out.size)).setCell (p := ⟨w3.heap.size, 0, none⟩) (by show _ ≤ w3.heap.size; have := HQW.out; omega) _).setCell (p := ⟨w3.heap.size, 1, none⟩) (by show _ ≤ w3.heap.size; have := HQW.out; omega) _
      have HRW : Hid (RowAt w9 a8 (blen (Q + 1)) (bitV (Q + 1))) := by
        show RowAt _ _ _ _
        rw [← hw9]
        exact (e83.far (fun x e => by have := hfar x e; omega)).far (fun x e => by have := hfar x e; omega)
      have HEW := Lib.hid (show blen (Q + 1) ≤ cap8 ∧ cap8 ≤ maxLen from ⟨e81, e82⟩)
      have HFW : Hid (∀ x, a8 = some x → w.heap.size + 3 ≤ x.block ∧ (0 < blen (Q + 1) → x.block ≠ w3.heap.size)) := fun x e => ⟨by have := hfar x e; have := HQW.out; omega, fun _ => by have := hfar x e; omega⟩
      rw [hw9]
      clear hw9 hfar h68 hna e81 e82 e83 x8 qe0 qe1 qg0 qg1 qd0 qd1 qh0 qh1 hf8 hb8 hf7 hb7 hB7 qc0 qc1 qf0 qf1 p0 p1 p2 p3 p4 p5 p6 p7
      obtain ⟨p0, p1, p2, p3, p4, p5, p6, p7⟩ := id XW.out
      have n0 : w.heap.size ≠ w3.heap.size := by have := HQW.out; omega
      have n1 : w.heap.size + 1 ≠ w3.heap.size := by have := HQW.out; omega
      have n2 : w.heap.size + 1 + 1 ≠ w3.heap.size := by have := HQW.out; omega
      have n3 : w3.heap.size ≠ w.heap.size + 1 + 1 := fun e => n2 e.symm
      cases s <;> cases t
      · go_wp2_with fail
        refine bodyPost_ret (v := .agg #[.bool false, .slice a8 (blen (Q + 1)) cap8]) ?_ rfl ?_
        · simp [results, Try.results12, go_sem, p4, p5, n2, n3]
        · exact near_end HQW.out HBW.out (by rw [G1.out]; simp; try omega) G2.out HRW.out HEW.out.1 HEW.out.2 HFW.out
      · by_cases hl0 : 0 < blen (Q + 1)
        · go_wp2_with fail
          refine bodyPost_ret (v := .agg #[.bool true, .slice a8 (blen (Q + 1)) cap8]) ?_ rfl ?_
          · simp [results, Try.results12, go_sem, p4, p5, n2, n3]
          · exact near_end HQW.out HBW.out (by rw [G1.out]; simp; try omega) G2.out HRW.out HEW.out.1 HEW.out.2 HFW.out
        · go_wp2_with fail
          refine bodyPost_ret (v := .agg #[.bool false, .slice a8 (blen (Q + 1)) cap8]) ?_ rfl ?_
          · simp [results, Try.results12, go_sem, p4, p5, n2, n3]
          · exact near_end HQW.out HBW.out (by rw [G1.out]; simp; try omega) G2.out HRW.out HEW.out.1 HEW.out.2 HFW.out
      · by_cases hl0 : 0 < blen (Q + 1)
        · go_wp2_with fail
          refine bodyPost_ret (v := .agg #[.bool true, .slice a8 (blen (Q + 1)) cap8]) ?_ rfl ?_
          · simp [results, Try.results12, go_sem, p4, p5, n2, n3]
          · exact near_end HQW.out HBW.out (by rw [G1.out]; simp; try omega) G2.out HRW.out HEW.out.1 HEW.out.2 HFW.out
        · go_wp2_with fail
          refine bodyPost_ret (v := .agg #[.bool false, .slice a8 (blen (Q + 1)) cap8]) ?_ rfl ?_
          · simp [results, Try.results12, go_sem, p4, p5, n2, n3]
          · exact near_end HQW.out HBW.out (by rw [G1.out]; simp; try omega) G2.out HRW.out HEW.out.1 HEW.out.2 HFW.out
      · go_wp2_with fail
        refine bodyPost_ret (v := .agg #[.bool false, .slice a8 (blen (Q + 1)) cap8]) ?_ rfl ?_
        · simp [results, Try.results12, go_sem, p4, p5, n2, n3]
        · exact near_end HQW.out HBW.out (by rw [G1.out]; simp; try omega) G2.out HRW.out HEW.out.1 HEW.out.2 HFW.out

end Go.Proofs.Ytncodoaphfeefaa
