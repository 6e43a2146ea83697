/- The reference's numbers as bits: Add. -/
import Derived.Test.YtncodoaphfeefaaRefB
import Derived.Test.YtncodoaphfeefaaRefAp

namespace Go.Proofs.Ytncodoaphfeefaa
open Go.RowKit
set_option linter.unusedVariables false
set_option maxRecDepth 100000
set_option linter.unusedSimpArgs false




/-- The boxes of Add: its two numbers, and the answer's. -/
structure AddBox (w : World) (B : Nat) (s t : Bool) (a a' : Option Addr) (l l' cap cap' : Nat) : Prop where
  c0 : w.cell? ⟨B, 0, none⟩ = some (.bool s)
  c1 : w.cell? ⟨B, 1, none⟩ = some (.slice a l cap)
  d0 : w.cell? ⟨B + 1, 0, none⟩ = some (.bool t)
  d1 : w.cell? ⟨B + 1, 1, none⟩ = some (.slice a' l' cap')
  r0 : w.cell? ⟨B + 1 + 1, 0, none⟩ = some (.bool false)
  r1 : w.cell? ⟨B + 1 + 1, 1, none⟩ = some (.slice none 0 0)
  f0 : w.frozen? ⟨B + 1 + 1, 0, none⟩ = false
  f1 : w.frozen? ⟨B + 1 + 1, 1, none⟩ = false
theorem AddBox.after {w w' : World} {B : Nat} {s t : Bool} {a a' : Option Addr} {l l' cap cap' : Nat} (h : AddBox w B s t a a' l l' cap cap') (hb : Below w.heap.size w w') : AddBox w' B s t a a' l l' cap cap' :=
  ⟨below_cell hb h.c0, below_cell hb h.c1, below_cell hb h.d0, below_cell hb h.d1, below_cell hb h.r0, below_cell hb h.r1, below_frozen hb h.r0 h.f0, below_frozen hb h.r1 h.f1⟩

/-- The answer stored, and read back. -/
theorem add_end {w w' : World} {B : Nat} {z : Int} {s : Bool} {a : Option Addr} {l cap : Nat} (h : BigAt w' z s a l cap) (hB : w.heap.size ≤ B) (hb : Below w.heap.size w w') (ha : ∀ x, a = some x → x.block ≠ B) :
    BigAt ((w'.setCell ⟨B, 0, none⟩ (.bool s)).setCell ⟨B, 1, none⟩ (.slice a l cap)) z s a l cap ∧ Below w.heap.size w ((w'.setCell ⟨B, 0, none⟩ (.bool s)).setCell ⟨B, 1, none⟩ (.slice a l cap)) := by
  have hg : w'.grownBy ((w'.setCell ⟨B, 0, none⟩ (.bool s)).setCell ⟨B, 1, none⟩ (.slice a l cap)) (some B) := grown_trans (grown_setCell _ _ _ _) (grown_setCell _ _ _ _)
  exact ⟨h.grown hg (fun x e => by have := ha x e; simp; omega), hb.grown hg hb.size (fun r e => by cases e; exact hB)⟩

set_option maxHeartbeats 1000000 in
theorem add_big (z1 z2 : Int) (s t : Bool) (a a' : Option Addr) (l l' cap cap' : Nat) (w : World) (h1 : BigAt w z1 s a l cap) (h2 : BigAt w z2 t a' l' cap') (b1 : blen z1.natAbs ≤ 5000) (b2 : blen z2.natAbs ≤ 5000) :
    Calls Try.prog 24 #[.agg #[.bool s, .slice a l cap], .agg #[.bool t, .slice a' l' cap']] w (BigEnd (z1 + z2) w) := by
  obtain ⟨hs, rfl, hc, hm, hr⟩ := h1
  obtain ⟨ht, rfl, hc', hm', hr'⟩ := h2
  have hal : Below w.heap.size w (((w.alloc (.cells #[.bool s, .slice a (blen z1.natAbs) cap] 29)).alloc (.cells #[.bool t, .slice a' (blen z2.natAbs) cap'] 29)).alloc (.cells #[.bool false, .slice none 0 0] 29)) :=
    (((Below.refl _ _).alloc (Nat.le_refl _) _).alloc (by simp) _).alloc (by simp; omega) _
  have hx : AddBox (((w.alloc (.cells #[.bool s, .slice a (blen z1.natAbs) cap] 29)).alloc (.cells #[.bool t, .slice a' (blen z2.natAbs) cap'] 29)).alloc (.cells #[.bool false, .slice none 0 0] 29)) w.heap.size s t a a' (blen z1.natAbs) (blen z2.natAbs) cap cap' :=
    ⟨by go_simp, by go_simp, by go_simp, by go_simp, by go_simp, by go_simp, by go_simp, by go_simp⟩
  have Hs := Lib.hid hs
  have Ht := Lib.hid ht
  clear hs ht
  by_cases hst : s = t
  · subst hst
    have HZ : Hid (z1.natAbs + z2.natAbs = (z1 + z2).natAbs ∧ s = decide (z1 + z2 < 0)) := by
      have e1 := Hs.out
      have e2 := Ht.out
      cases s
      · simp at e1 e2
        exact ⟨by omega, by simp; omega⟩
      · simp at e1 e2
        exact ⟨by omega, by simp; omega⟩
    clear Hs Ht
    go_enter Try.func24, Try.ntmps24
    go_wp2_with fail
    obtain ⟨wa, hwa⟩ : ∃ wa, (((w.alloc (.cells #[.bool s, .slice a (blen z1.natAbs) cap] 29)).alloc (.cells #[.bool s, .slice a' (blen z2.natAbs) cap'] 29)).alloc (.cells #[.bool false, .slice none 0 0] 29)) = wa := ⟨_, rfl⟩
    rw [hwa] at hal hx ⊢
    have hsz : wa.heap.size = w.heap.size + 1 + 1 + 1 := by rw [← hwa]; simp
    have HSZ := Lib.hid hsz
    have n0 : w.heap.size ≠ w.heap.size + 1 + 1 := by omega
    have n1 : w.heap.size + 1 ≠ w.heap.size + 1 + 1 := by omega
    have hr2 := hr.after hal
    have hr3 := hr'.after hal
    clear hwa hsz hr hr'
    go_region_held3 (fun w' => w'.cell? ⟨w.heap.size, 0, none⟩ = some (.bool s) ∧ w'.cell? ⟨w.heap.size, 1, none⟩ = some (.slice a (blen z1.natAbs) cap) ∧ w'.cell? ⟨w.heap.size + 1, 1, none⟩ = some (.slice a' (blen z2.natAbs) cap'))
      (first | exact ⟨hx.c0, hx.c1, hx.d1⟩ | exact ⟨hx3.c0, hx3.c1, hx3.d1⟩ | exact ⟨set_far (set_far q0 n0) n0, set_far (set_far q1 n0) n0, set_far (set_far q3 n1) n1⟩)
      (first | (go_at_call 31; refine (plus_bits a a' cap cap' z1.natAbs z2.natAbs _ hr2.drew hr3.drew (by omega) (by omega)).mono ?_; rintro e w3 ⟨c3, cap3, rfl, g1, g2, g3, g4, g5⟩; have G5 := Lib.hid g5; clear g5; have hx3 := (hx.after ((Below.refl _ _).drew)).after g4; obtain ⟨q0, q1, q2, q3, q4, q5, q6, q7⟩ := id hx3))
    have hbw : Below w.heap.size w w3 := (hal.trans ((Below.refl _ _).drew)).trans (g4.mono (by have := HSZ.out; simp; omega))
    have HB : BigAt w3 (z1 + z2) s c3 (blen (z1.natAbs + z2.natAbs)) cap3 := ⟨HZ.out.2, by rw [HZ.out.1], g1, g2, by rw [← HZ.out.1]; exact g3⟩
    go_wp2_with fail
    refine bodyPost_ret (v := .agg #[.bool s, .slice c3 (blen (z1.natAbs + z2.natAbs)) cap3]) ?_ rfl ?_
    · simp [results, Try.results24, go_sem, q4, q5]
    · obtain ⟨k1, k2⟩ := add_end (B := w.heap.size + 1 + 1) HB (by omega) hbw (fun x e => by have := G5.out x e; have := HSZ.out; simp at *; omega)
      exact ⟨_, _, _, _, rfl, k1, k2, fun x e => by have := G5.out x e; have := HSZ.out; simp at *; omega⟩
  · rcases Nat.lt_or_ge z1.natAbs z2.natAbs with hlt | hge
    · have eo : ordN z1.natAbs z2.natAbs = -1 := by unfold ordN; rw [if_pos hlt]
      have HZ : Hid (z2.natAbs - z1.natAbs = (z1 + z2).natAbs ∧ t = decide (z1 + z2 < 0)) := by
        have e1 := Hs.out
        have e2 := Ht.out
        cases s <;> cases t <;> simp at e1 e2 hst <;> exact ⟨by omega, by simp; omega⟩
      have hd : (s == t) = false := by rw [beq_eq_false_iff_ne]; exact hst
      clear Hs Ht hst
      go_enter Try.func24, Try.ntmps24
      go_wp2_with fail
      obtain ⟨wa, hwa⟩ : ∃ wa, (((w.alloc (.cells #[.bool s, .slice a (blen z1.natAbs) cap] 29)).alloc (.cells #[.bool t, .slice a' (blen z2.natAbs) cap'] 29)).alloc (.cells #[.bool false, .slice none 0 0] 29)) = wa := ⟨_, rfl⟩
      rw [hwa] at hal hx ⊢
      have hsz : wa.heap.size = w.heap.size + 1 + 1 + 1 := by rw [← hwa]; simp
      have HSZ := Lib.hid hsz
      have n0 : w.heap.size ≠ w.heap.size + 1 + 1 := by omega
      have n1 : w.heap.size + 1 ≠ w.heap.size + 1 + 1 := by omega
      have hr2 := hr.after hal
      have hr3 := hr'.after hal
      clear hwa hsz hr hr'
      obtain ⟨q0, q1, q2, q3, q4, q5, q6, q7⟩ := id hx
      refine (order_bits a a' cap cap' z1.natAbs z2.natAbs _ hr2 hr3 (by omega) (by omega)).mono ?_
      rintro e w2 ⟨rfl, hb2⟩
      rw [eo]
      have hxb := hx.after hb2
      have hr4 := hr2.after hb2
      have hr5 := hr3.after hb2
      have zb := hb2.size
      clear q0 q1 q2 q3 q4 q5 q6 q7 hx hr2 hr3
      go_wp2_with fail
      go_region_held3 (fun w' => w'.cell? ⟨w.heap.size + 1, 0, none⟩ = some (.bool t) ∧ w'.cell? ⟨w.heap.size, 1, none⟩ = some (.slice a (blen z1.natAbs) cap) ∧ w'.cell? ⟨w.heap.size + 1, 1, none⟩ = some (.slice a' (blen z2.natAbs) cap'))
        (first | exact ⟨hxb.d0, hxb.c1, hxb.d1⟩ | exact ⟨hx3.d0, hx3.c1, hx3.d1⟩ | exact ⟨set_far (set_far q2 n1) n1, set_far (set_far q1 n0) n0, set_far (set_far q3 n1) n1⟩)
        (first | (go_at_call 40; refine (minus_bits a' a cap' cap z2.natAbs z1.natAbs _ hr5.drew hr4.drew (by omega) (by omega)).mono ?_; rintro e w3 ⟨c3, cap3, rfl, g1, g2, g3, g4, g5⟩; have G5 := Lib.hid g5; clear g5; have hx3 := (hxb.after ((Below.refl _ _).drew)).after g4; obtain ⟨q0, q1, q2, q3, q4, q5, q6, q7⟩ := id hx3))
      have hbw : Below w.heap.size w w3 := (hal.trans ((hb2.mono (by have := HSZ.out; omega)).trans ((Below.refl _ _).drew))).trans (g4.mono (by have := HSZ.out; simp; omega))
      have HB : BigAt w3 (z1 + z2) t c3 (blen (z2.natAbs - z1.natAbs)) cap3 := ⟨HZ.out.2, by rw [HZ.out.1], g1, g2, by rw [← HZ.out.1]; exact g3⟩
      go_wp2_with fail
      refine bodyPost_ret (v := .agg #[.bool t, .slice c3 (blen (z2.natAbs - z1.natAbs)) cap3]) ?_ rfl ?_
      · simp [results, Try.results24, go_sem, q4, q5]
      · obtain ⟨k1, k2⟩ := add_end (B := w.heap.size + 1 + 1) HB (by omega) hbw (fun x e => by have := G5.out x e; have := HSZ.out; simp at *; omega)
        exact ⟨_, _, _, _, rfl, k1, k2, fun x e => by have := G5.out x e; have := HSZ.out; simp at *; omega⟩
    · have eo : 0 ≤ ordN z1.natAbs z2.natAbs := by unfold ordN; split <;> (try split) <;> omega
      have HZ : Hid (z1.natAbs - z2.natAbs = (z1 + z2).natAbs ∧ (s && decide (0 < blen (z1.natAbs - z2.natAbs))) = decide (z1 + z2 < 0)) := by
        have e1 := Hs.out
        have e2 := Ht.out
        have e3 := @blen_eq_zero (z1.natAbs - z2.natAbs)
        cases s <;> cases t <;> simp at e1 e2 hst <;> exact ⟨by omega, by simp; omega⟩
      have hd : (s == t) = false := by rw [beq_eq_false_iff_ne]; exact hst
      clear Hs Ht hst
      go_enter Try.func24, Try.ntmps24
      go_wp2_with fail
      obtain ⟨wa, hwa⟩ : ∃ wa, (((w.alloc (.cells #[.bool s, .slice a (blen z1.natAbs) cap] 29)).alloc (.cells #[.bool t, .slice a' (blen z2.natAbs) cap'] 29)).alloc (.cells #[.bool false, .slice none 0 0] 29)) = wa := ⟨_, rfl⟩
      rw [hwa] at hal hx ⊢
      have hsz : wa.heap.size = w.heap.size + 1 + 1 + 1 := by rw [← hwa]; simp
      have HSZ := Lib.hid hsz
      have n0 : w.heap.size ≠ w.heap.size + 1 + 1 := by omega
      have n1 : w.heap.size + 1 ≠ w.heap.size + 1 + 1 := by omega
      have hr2 := hr.after hal
      have hr3 := hr'.after hal
      clear hwa hsz hr hr'
      obtain ⟨q0, q1, q2, q3, q4, q5, q6, q7⟩ := id hx
      refine (order_bits a a' cap cap' z1.natAbs z2.natAbs _ hr2 hr3 (by omega) (by omega)).mono ?_
      rintro e w2 ⟨rfl, hb2⟩
      have hxb := hx.after hb2
      have hr4 := hr2.after hb2
      have hr5 := hr3.after hb2
      have zb := hb2.size
      clear q0 q1 q2 q3 q4 q5 q6 q7 hx hr2 hr3
      obtain ⟨q0, q1, q2, q3, q4, q5, q6, q7⟩ := id hxb
      go_wp2_with fail
      refine (minus_bits a a' cap cap' z1.natAbs z2.natAbs _ hr4 hr5 (by omega) (by omega)).mono ?_
      rintro e w3 ⟨c3, cap3, rfl, g1, g2, g3, g4, g5⟩
      have G5 := Lib.hid g5
      clear g5
      have hx3 := hxb.after g4
      clear q0 q1 q2 q3 q4 q5 q6 q7
      obtain ⟨q0, q1, q2, q3, q4, q5, q6, q7⟩ := id hx3
      have hbw : Below w.heap.size w w3 := (hal.trans (hb2.mono (by have := HSZ.out; omega))).trans (g4.mono (by have := HSZ.out; omega))
      have HB : BigAt w3 (z1 + z2) (s && decide (0 < blen (z1.natAbs - z2.natAbs))) c3 (blen (z1.natAbs - z2.natAbs)) cap3 := ⟨HZ.out.2, by rw [HZ.out.1], g1, g2, by rw [← HZ.out.1]; exact g3⟩
      cases s
      · rw [show ((_ : Bool) && decide (0 < blen (z1.natAbs - z2.natAbs))) = false from by simp] at HB
        go_wp2_with fail
        refine bodyPost_ret (v := .agg #[.bool false, .slice c3 (blen (z1.natAbs - z2.natAbs)) cap3]) ?_ rfl ?_
        · simp [results, Try.results24, go_sem, q4, q5]
        · obtain ⟨k1, k2⟩ := add_end (B := w.heap.size + 1 + 1) HB (by omega) hbw (fun x e => by have := G5.out x e; have := HSZ.out; simp at *; omega)
          exact ⟨_, _, _, _, rfl, k1, k2, fun x e => by have := G5.out x e; have := HSZ.out; simp at *; omega⟩
      · by_cases hl0 : 0 < blen (z1.natAbs - z2.natAbs)
        · rw [show ((_ : Bool) && decide (0 < blen (z1.natAbs - z2.natAbs))) = true from by simp [hl0]] at HB
          go_wp2_with fail
          refine bodyPost_ret (v := .agg #[.bool true, .slice c3 (blen (z1.natAbs - z2.natAbs)) cap3]) ?_ rfl ?_
          · simp [results, Try.results24, go_sem, q4, q5]
          · obtain ⟨k1, k2⟩ := add_end (B := w.heap.size + 1 + 1) HB (by omega) hbw (fun x e => by have := G5.out x e; have := HSZ.out; simp at *; omega)
            exact ⟨_, _, _, _, rfl, k1, k2, fun x e => by have := G5.out x e; have := HSZ.out; simp at *; omega⟩
        · rw [show ((_ : Bool) && decide (0 < blen (z1.natAbs - z2.natAbs))) = false from by simp [hl0]] at HB
          go_wp2_with fail
          refine bodyPost_ret (v := .agg #[.bool false, .slice c3 (blen (z1.natAbs - z2.natAbs)) cap3]) ?_ rfl ?_
          · simp [results, Try.results24, go_sem, q4, q5]
          · obtain ⟨k1, k2⟩ := add_end (B := w.heap.size + 1 + 1) HB (by omega) hbw (fun x e => by have := G5.out x e; have := HSZ.out; simp at *; omega)
            exact ⟨_, _, _, _, rfl, k1, k2, fun x e => by have := G5.out x e; have := HSZ.out; simp at *; omega⟩

end Go.Proofs.Ytncodoaphfeefaa
