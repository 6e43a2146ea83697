/- The reference's numbers as bits (package chattelref01): Order. -/
import Derived.Test.YtncodoaphfeefaaRefBa
import Derived.Test.YtncodoaphfeefaaRefP
import Derived.Test.YtncodoaphfeefaaGen
import Derived.Deep.RegionHeld3
namespace Go.Proofs.Ytncodoaphfeefaa
open Go.RowKit
set_option linter.unusedVariables false
set_option linter.unusedSimpArgs false

def ordV (x y : Int) : Int := if x < y then -1 else if x = y then 0 else 1
set_option maxHeartbeats 4000000 in
set_option maxRecDepth 100000 in
theorem order_big (z1 z2 : Int) (s t : Bool) (a a' : Option Addr) (l l' cap cap' : Nat) (w : World) (h1 : BigAt w z1 s a l cap) (h2 : BigAt w z2 t a' l' cap') (b1 : blen z1.natAbs ≤ 4000) (b2 : blen z2.natAbs ≤ 4000) :
    Calls Try.prog 38 #[.agg #[.bool s, .slice a l cap], .agg #[.bool t, .slice a' l' cap']] w fun e w' => e = .returned (.int .i64 (ordV z1 z2)) ∧ Below w.heap.size w w' := by
  obtain ⟨wa, hwa⟩ : ∃ wa, (w.alloc (.cells #[.bool s, .slice a l cap] 29)).alloc (.cells #[.bool t, .slice a' l' cap'] 29) = wa := ⟨_, rfl⟩
  have hal : Below w.heap.size w wa := by rw [← hwa]; exact ((Below.refl _ _).alloc (Nat.le_refl _) _).alloc (by simp) _
  have k0 : Blk wa w.heap.size #[.bool s, .slice a l cap] 29 := by rw [← hwa]; exact (Blk.new _ _ _).alloc _
  have k1 : Blk wa (w.heap.size + 1) #[.bool t, .slice a' l' cap'] 29 := by rw [← hwa]; have := Blk.new (w.alloc (.cells #[.bool s, .slice a l cap] 29)) #[.bool t, .slice a' l' cap'] 29; simpa using this
  have HS : Hid (∀ W, Below wa.heap.size wa W → W.cell? ⟨w.heap.size, 0, none⟩ = some (.bool s) ∧ W.cell? ⟨w.heap.size, 1, none⟩ = some (.slice a l cap) ∧ W.cell? ⟨w.heap.size + 1, 0, none⟩ = some (.bool t) ∧ W.cell? ⟨w.heap.size + 1, 1, none⟩ = some (.slice a' l' cap')) := fun W hW => ⟨(k0.after hW).cell 0 rfl, (k0.after hW).cell 1 rfl, (k1.after hW).cell 0 rfl, (k1.after hW).cell 1 rfl⟩
  obtain ⟨u, hu⟩ : ∃ u, decide (-z2 < 0) = u := ⟨_, rfl⟩
  have HNg : Hid (∀ W, Below wa.heap.size wa W → Calls Try.prog 25 #[.agg #[.bool t, .slice a' l' cap']] W fun e w' => e = .returned (.agg #[.bool u, .slice a' l' cap']) ∧ Below W.heap.size W w') := fun W hW => by
    rw [← hu]
    exact neg_big z2 t a' l' cap' W ((h2.after hal).after hW)
  obtain ⟨OV, hOV⟩ : ∃ v, ordV z1 z2 = v := ⟨_, rfl⟩
  rw [hOV]
  have HAd : Hid (∀ W, Below wa.heap.size wa W → Calls Try.prog 24 #[.agg #[.bool s, .slice a l cap], .agg #[.bool u, .slice a' l' cap']] W fun e w' => (∃ s3 a3 l3 c3, e = .returned (.agg #[.bool s3, .slice a3 l3 c3]) ∧ ((l3 = 0 ∧ OV = 0) ∨ (l3 ≠ 0 ∧ s3 = true ∧ OV = -1) ∨ (l3 ≠ 0 ∧ s3 = false ∧ OV = 1))) ∧ Below W.heap.size W w') := fun W hW => by
    rw [← hu]
    have e1 := (h1.after hal).after hW
    have e2 := (h2.after hal).after hW
    refine (add_big z1 (-z2) s (decide (-z2 < 0)) a a' l l' cap cap' W e1 ⟨rfl, by rw [Int.natAbs_neg]; exact e2.hl, e2.hc, e2.hm, by rw [Int.natAbs_neg]; exact e2.hr⟩ (by omega) (by rw [Int.natAbs_neg]; omega)).mono ?_
    rintro e w' ⟨s3, a3, l3, c3, rfl, hB, hb, _⟩
    refine ⟨⟨s3, a3, l3, c3, rfl, ?_⟩, hb⟩
    have g1 := hB.hs
    have g2 := hB.hl
    have g3 : l3 = 0 ↔ z1 + -z2 = 0 := by rw [g2, blen_eq_zero]; omega
    rw [← hOV]
    unfold ordV
    rcases Int.lt_trichotomy z1 z2 with h | h | h
    · exact .inr (.inl ⟨by omega, by rw [g1]; exact decide_eq_true (by omega), if_pos h⟩)
    · exact .inl ⟨by omega, by rw [if_neg (by omega), if_pos h]⟩
    · exact .inr (.inr ⟨by omega, by rw [g1]; exact decide_eq_false (by omega), by rw [if_neg (by omega), if_neg (by omega)]⟩)
  have HAL := Lib.hid hal
  have hb0 := (Below.refl wa.heap.size wa).drew
  have hb1 := ((Below.refl wa.heap.size wa).alloc (Nat.le_refl _) (.cells #[.bool false, .slice none 0 0] 29)).drew
  have kz1 := (Blk.new wa #[.bool false, .slice none 0 0] 29).drew
  clear h1 h2 hal k0 k1 hu hOV
  go_enter Try.func38, Try.ntmps38
  go_wp2_with fail
  try rw [hwa]
  have HK1 := Lib.hid kz1
  clear hwa kz1
  go_region_held3 (fun W => W.cell? ⟨w.heap.size, 0, none⟩ = some (.bool s) ∧ W.cell? ⟨w.heap.size, 1, none⟩ = some (.slice a l cap) ∧ W.cell? ⟨w.heap.size + 1, 0, none⟩ = some (.bool t) ∧ W.cell? ⟨w.heap.size + 1, 1, none⟩ = some (.slice a' l' cap'))
    (first | with_reducible exact HS.out _ hb7 | with_reducible exact HS.out _ hb6z | with_reducible exact HS.out _ hb6 | with_reducible exact HS.out _ hb5a | with_reducible exact HS.out _ hb5 | with_reducible exact HS.out _ hb1 | with_reducible exact HS.out _ hb0)
    (first
      | (go_at_call 25; (with_reducible refine (HNg.out _ hb0).mono ?_); rintro e w5 ⟨rfl, hb5'⟩; have hb5 := hb0.trans (hb5'.mono hb0.size); have hb5a := hb5.alloc (hb5.size) (.cells #[.bool false, .slice none 0 0] 29); clear hb5')
      | (go_at_call 25; (with_reducible refine (HNg.out _ hb1).mono ?_); rintro e w5 ⟨rfl, hb5'⟩; have hb5 := hb1.trans (hb5'.mono hb1.size); have kz5 := HK1.out.after hb5'; clear hb5')
      | (go_at_call 24; (have kz5' := kz5); (with_reducible refine (HAd.out _ hb5).mono ?_); rintro e w6 ⟨⟨s3, a3, l3, c3, rfl, h3⟩, hb6'⟩; have hb6 := hb5.trans (hb6'.mono hb5.size); have kz6 := kz5.after hb6'; have H3 := Lib.hid h3; clear h3 hb6'; have hb7 := (hb6.setCell (p := ⟨wa.heap.size, 0, none⟩) (by first | exact Nat.le_refl _ | exact hb5.size) (.bool s3)).setCell (p := ⟨wa.heap.size, 1, none⟩) (by first | exact Nat.le_refl _ | exact hb5.size) (.slice a3 l3 c3); have y0 := kz6.cell 0 rfl; have y1 := kz6.cell 1 rfl; have y2 := kz6.free 0; have y3 := kz6.free 1; have kd : Blk ((w6.setCell ⟨wa.heap.size, 0, none⟩ (.bool s3)).setCell ⟨wa.heap.size, 1, none⟩ (.slice a3 l3 c3)) wa.heap.size #[.bool s3, .slice a3 l3 c3] 29 := (kz6.set 0 _).set 1 _)
      | (go_at_call 24; (with_reducible refine (HAd.out _ hb5a).mono ?_); rintro e w6 ⟨⟨s3, a3, l3, c3, rfl, h3⟩, hb6'⟩; have hb6 := hb5a.trans (hb6'.mono hb5a.size); have kz6 := (Blk.new w5 #[.bool false, .slice none 0 0] 29).after hb6'; have H3 := Lib.hid h3; clear h3 hb6'; have hb7 := (hb6.setCell (p := ⟨w5.heap.size, 0, none⟩) (by first | exact Nat.le_refl _ | exact hb5.size) (.bool s3)).setCell (p := ⟨w5.heap.size, 1, none⟩) (by first | exact Nat.le_refl _ | exact hb5.size) (.slice a3 l3 c3); have y0 := kz6.cell 0 rfl; have y1 := kz6.cell 1 rfl; have y2 := kz6.free 0; have y3 := kz6.free 1; have kd : Blk ((w6.setCell ⟨w5.heap.size, 0, none⟩ (.bool s3)).setCell ⟨w5.heap.size, 1, none⟩ (.slice a3 l3 c3)) w5.heap.size #[.bool s3, .slice a3 l3 c3] 29 := (kz6.set 0 _).set 1 _)
      | (go_at_call 24; (with_reducible refine (HAd.out _ hb5).mono ?_); rintro e w6 ⟨⟨s3, a3, l3, c3, rfl, h3⟩, hb6'⟩; have hb6 := hb5.trans (hb6'.mono hb5.size); have H3 := Lib.hid h3; clear h3 hb6'; have hb6z := hb6.alloc (hb6.size) (.cells #[.bool false, .slice none 0 0] 29); have hb7 := hb6.alloc (hb6.size) (.cells #[.bool s3, .slice a3 l3 c3] 29); have kd := Blk.new w6 #[.bool s3, .slice a3 l3 c3] 29))
  all_goals
    have q0 := kd.cell 0 rfl
    have q1 := kd.cell 1 rfl
    have HF := Lib.hid (HAL.out.trans (hb7.mono HAL.out.size))
    clear hb0 hb1 hb5 hb6 hb7 kd
    rcases H3.out with ⟨rfl, rfl⟩ | ⟨g1, rfl, rfl⟩ | ⟨g1, rfl, rfl⟩
    · go_wp2_with fail
      go_ret
      exact ⟨rfl, HF.out⟩
    · have g2 : ((l3 : Int) == 0) = false := by simp [g1]
      clear g1
      go_wp2_with fail
      go_ret
      exact ⟨rfl, HF.out⟩
    · have g2 : ((l3 : Int) == 0) = false := by simp [g1]
      clear g1
      go_wp2_with fail
      go_ret
      exact ⟨rfl, HF.out⟩

end Go.Proofs.Ytncodoaphfeefaa
