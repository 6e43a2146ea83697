/- The reference's numbers as bits (package chattelref01): Of, Add, Sum, Int: whole numbers. -/
import Derived.Test.YtncodoaphfeefaaRefA
namespace Go.Proofs.Ytncodoaphfeefaa
open Go.RowKit
set_option linter.unusedVariables false
set_option linter.unusedSimpArgs false


/-- A Big number z, as its two parts lie: the sign, and the row of bits. -/
structure BigAt (w : World) (z : Int) (s : Bool) (a : Option Addr) (l cap : Nat) : Prop where
  hs : s = decide (z < 0)
  hl : l = blen z.natAbs
  hc : l ≤ cap
  hm : cap ≤ maxLen
  hr : RowAt w a l (bitV z.natAbs)
theorem BigAt.after {w w' : World} {z : Int} {s : Bool} {a : Option Addr} {l cap : Nat} (h : BigAt w z s a l cap) (hb : Below w.heap.size w w') : BigAt w' z s a l cap :=
  ⟨h.hs, h.hl, h.hc, h.hm, h.hr.after hb⟩
theorem BigAt.grown {w w' : World} {row : Option Nat} {z : Int} {s : Bool} {a : Option Addr} {l cap : Nat} (h : BigAt w z s a l cap) (hg : w.grownBy w' row) (hr : ∀ x, a = some x → row ≠ some x.block) : BigAt w' z s a l cap :=
  ⟨h.hs, h.hl, h.hc, h.hm, h.hr.grown hg hr⟩
def BigEnd (z : Int) (w : World) (e : Ending) (w' : World) : Prop :=
  ∃ s a l cap, e = .returned (.agg #[.bool s, .slice a l cap]) ∧ BigAt w' z s a l cap ∧ Below w.heap.size w w' ∧ ∀ x, a = some x → w.heap.size ≤ x.block

theorem bit_of (N k : Nat) : bitAt N k = ((N / 2 ^ k % 2 : Nat) : Int) := rfl
theorem div_succ (N k : Nat) : N / 2 ^ (k + 1) = N / 2 ^ k / 2 := by rw [Nat.pow_succ, Nat.div_div_eq_div_mul]
theorem neg_tmod2 (q : Nat) : (-(q : Int)).tmod 2 = -((q % 2 : Nat) : Int) := by
  rw [Int.neg_tmod, Int.tmod_eq_emod_of_nonneg (by omega)]; omega
theorem neg_tdiv2 (q : Nat) : (-(q : Int)).tdiv 2 = -((q / 2 : Nat) : Int) := by
  rw [Int.neg_tdiv, Int.tdiv_eq_ediv_of_nonneg (by omega)]; omega

/-- The boxes of Of: the answer's and out's. -/
structure OfBox (w : World) (B : Nat) (s : Bool) (v : Value) : Prop where
  r0 : w.cell? ⟨B, 0, none⟩ = some (.bool false)
  r1 : w.cell? ⟨B, 1, none⟩ = some (.slice none 0 0)
  rf : w.frozen? ⟨B, 0, none⟩ = false
  rf' : w.frozen? ⟨B, 1, none⟩ = false
  c0 : w.cell? ⟨B + 1, 0, none⟩ = some (.bool s)
  c1 : w.cell? ⟨B + 1, 1, none⟩ = some v
  cf : w.frozen? ⟨B + 1, 1, none⟩ = false
theorem OfBox.grown {w w' : World} {B : Nat} {s : Bool} {v : Value} {row : Option Nat} (h : OfBox w B s v) (hg : w.grownBy w' row) (h0 : row ≠ some B) (h1 : row ≠ some (B + 1)) : OfBox w' B s v :=
  ⟨grown_cell hg h.r0 h0, grown_cell hg h.r1 h0, grown_frozen hg h.r0 h.rf h0, grown_frozen hg h.r1 h.rf' h0, grown_cell hg h.c0 h1, grown_cell hg h.c1 h1, grown_frozen hg h.c1 h.cf h1⟩
theorem OfBox.set {w : World} {B : Nat} {s : Bool} {v : Value} (h : OfBox w B s v) (v' : Value) : OfBox (w.setCell ⟨B + 1, 1, none⟩ v') B s v' :=
  ⟨(World.cell?_setCell_other w _ _ _ (by simp)).trans h.r0, (World.cell?_setCell_other w _ _ _ (by simp)).trans h.r1, by rw [World.frozen?_setCell]; exact h.rf, by rw [World.frozen?_setCell]; exact h.rf',
   (World.cell?_setCell_other w _ _ _ (by simp)).trans h.c0, World.cell?_setCell_same w _ _ h.c1, by rw [World.frozen?_setCell]; exact h.cf⟩



set_option maxHeartbeats 1000000 in
set_option maxRecDepth 100000 in
theorem of_big (n : Int) (hb1 : -9223372036854775808 ≤ n) (hb2 : n ≤ 9223372036854775807) (w : World) : Calls Try.prog 14 #[.int .i64 n] w (BigEnd n w) := by
  obtain ⟨i0, hi, hz0, hz1, hz2⟩ := info_parts infoInt
  obtain ⟨N, hN⟩ : ∃ N : Nat, n.natAbs = N := ⟨_, rfl⟩
  by_cases hs : n < 0
  · obtain rfl : n = -(N : Int) := by omega
    have hsN : -(N : Int) < 0 := hs
    have hN0 : 0 < N := by omega
    go_enter Try.func14, Try.ntmps14
    go_wp2_with fail
    go_loopw [0, 4] (fun m b wr => ∃ k : Nat, k ≤ blen N ∧ m = .int .i64 (-((N / 2 ^ k : Nat) : Int)) ∧ (∃ v, OfBox wr w.heap.size true v ∧ wr.ownsRow (w.heap.size + 2) 3 1 v k (someBits N k)) ∧ Below w.heap.size w wr ∧ w.heap.size + 2 ≤ wr.heap.size) (fun m _ _ => (intOf m).natAbs)
    case atStart => exact ⟨0, by omega, by simp, ⟨_, ⟨by go_simp, by go_simp, by go_simp, by go_simp, by go_simp, by go_simp, by go_simp⟩, World.ownsRow_nil _ _ _ _⟩, ((Below.refl _ _).alloc (Nat.le_refl _) _).alloc (by simp) _, by simp⟩
    case round =>
      obtain ⟨k, hk, rfl, ⟨v, hbox, hown⟩, hbl, zr⟩ := hrel
      obtain ⟨a0, cap0, rfl, g0, g1, g2, g3, g4⟩ := owned_parts hown
      clear g0 g1 g2 g4
      obtain ⟨q0, q1, q2, q3, q4, q5, q6⟩ := id hbox
      by_cases hz : N / 2 ^ k = 0
      · obtain rfl : k = blen N := by
          have : ¬ k < blen N := fun h => by have := lt_blen.1 h; have := Nat.div_pos this (pow_pos2 k); omega
          omega
        obtain ⟨a1, cap1, e1, h0, h1, h2, _⟩ := owned_bits hown
        cases e1
        have hz0 : ((N / 2 ^ blen N : Nat) : Int) = 0 := by omega
        simp only [hz0, Int.neg_zero]
        have G3 := Lib.hid g3
        clear hz hz0 hown g3 hk
        have hbx := Lib.hid hbox
        clear hbox
        go_wp2_with fail
        have hg1 : wr.grownBy ((wr.setCell ⟨w.heap.size, 0, none⟩ (.bool true)).setCell ⟨w.heap.size, 1, none⟩ (.slice a0 (blen N) cap0)) (some w.heap.size) := grown_trans (grown_setCell _ _ _ _) (grown_setCell _ _ _ _)
        refine bodyPost_ret (v := .agg #[.bool true, .slice a0 (blen N) cap0]) ?_ rfl ?_
        · simp [results, Try.results14, go_sem, q0, q1]
        · refine ⟨true, a0, blen N, cap0, rfl, ⟨by simp; try omega, by simp, h0, h1, ?_⟩, ?_⟩
          · have := h2.grown hg1 (fun x e => by have := (G3.out x e).1; simp; omega)
            simpa using this
          · exact ⟨hbl.grown hg1 hbl.size (fun r e => by cases e; exact Nat.le_refl _), fun x e => by have := (G3.out x e).1; omega⟩
      · obtain ⟨q, hq⟩ : ∃ q, N / 2 ^ k = q := ⟨_, rfl⟩
        have hkl : k < blen N := lt_blen.2 (by
          rcases Nat.lt_or_ge N (2 ^ k) with h | h
          · exact absurd (Nat.div_eq_of_lt h) hz
          · exact h)
        have hqN : q ≤ N := by rw [← hq]; exact Nat.div_le_self _ _
        have hbN : blen N ≤ 64 := blen_le.2 (by omega)
        have hq0 : 0 < q := by omega
        rw [hq]
        have HQ := Lib.hid hq
        have HB := Lib.hid hbox
        have G3 := Lib.hid g3
        clear hq hbox hz g3
        have ht := neg_tmod2 q
        have hd := neg_tdiv2 q
        rcases Nat.mod_two_eq_zero_or_one q with hp | hp
        · rw [hp] at ht
          have HP := Lib.hid hp
          clear hp
          simp only [Int.natCast_zero, Int.neg_zero, Int.ofNat_zero, Int.cast_ofNat_Int] at ht
          go_wp2_with (at_builtin; refine wpList_append_own _ rfl _ _ 27 rfl (w.heap.size + 2) 3 i0 (.int .i64 0) 1 8 Try.underlying27 hi hz0 hz1 hz2 rfl (by decide) _ _ _ rfl (hown.alloc _) ⟨wr.heap.size, 0, none⟩ 1 1 [.int .i64 (0)] rfl rfl (news_one _ _ _) (by simp [Value.oneCell']) (by unfold maxLen; omega) (by omega) (by simp; omega) ?_; intro v' w1 hown' hgrow _; obtain ⟨a2, cap2, rfl, _, _, _, f3, _⟩ := owned_parts hown'; have hal : wr.grownBy (wr.alloc (.cells #[.int .i64 (0)] 3)) none := below_row ((Below.refl _ _).alloc (Nat.le_refl _) _) none; have hro : ∀ j, j < w.heap.size + 2 → Value.ownBlock (.slice a0 k cap0) ≠ some j := (fun j hj e => by cases a0 with | none => cases e | some x => (simp [Value.ownBlock] at e; have := (G3.out x rfl).1; omega)); have hb1 := (HB.out.grown hal (by simp) (by simp)).grown hgrow (hro _ (by omega)) (hro _ (by omega)); have c5 := hb1.c1; have c6 := hb1.cf)
          have hzal : Below w.heap.size w (wr.alloc (.cells #[.int .i64 (0)] 3)) := hbl.alloc hbl.size _
          have hbl2 : Below w.heap.size w w1 := hzal.grown hgrow hzal.size (fun j e => by rcases Nat.lt_or_ge j w.heap.size with h | h; exact absurd e (hro j (by omega)); exact h)
          have zr2 : w.heap.size + 2 ≤ w1.heap.size := by have := hgrow.size; simp at this; omega
          have e1 : 0 = bitAt N k := by rw [bit_of, HQ.out]; have := HP.out; omega
          rw [e1, ← someBits_succ] at hown'
          have hown2 := hown'.kept (grown_setCell w1 (w.heap.size + 1) 1 (.slice a2 (k + 1) cap2)) (Or.inr (by cases a2 with
            | none => simp [Value.ownBlock]
            | some x => have := (f3 x rfl).1; simp [Value.ownBlock]; omega))
          go_wp2_with fail
          go_roundw
          case rel => exact ⟨k + 1, by omega, by rw [div_succ, HQ.out]; congr 1, ⟨_, hb1.set _, hown2⟩, hbl2.setCell (p := ⟨w.heap.size + 1, 1, none⟩) (by simp) _, by simpa [World.setCell] using zr2⟩
          case measure => simp [intOf]; omega
        · rw [hp] at ht
          have HP := Lib.hid hp
          clear hp
          simp only [Int.natCast_one, Int.cast_ofNat_Int] at ht
          go_wp2_with (at_builtin; refine wpList_append_own _ rfl _ _ 27 rfl (w.heap.size + 2) 3 i0 (.int .i64 0) 1 8 Try.underlying27 hi hz0 hz1 hz2 rfl (by decide) _ _ _ rfl (hown.alloc _) ⟨wr.heap.size, 0, none⟩ 1 1 [.int .i64 (1)] rfl rfl (news_one _ _ _) (by simp [Value.oneCell']) (by unfold maxLen; omega) (by omega) (by simp; omega) ?_; intro v' w1 hown' hgrow _; obtain ⟨a2, cap2, rfl, _, _, _, f3, _⟩ := owned_parts hown'; have hal : wr.grownBy (wr.alloc (.cells #[.int .i64 (1)] 3)) none := below_row ((Below.refl _ _).alloc (Nat.le_refl _) _) none; have hro : ∀ j, j < w.heap.size + 2 → Value.ownBlock (.slice a0 k cap0) ≠ some j := (fun j hj e => by cases a0 with | none => cases e | some x => (simp [Value.ownBlock] at e; have := (G3.out x rfl).1; omega)); have hb1 := (HB.out.grown hal (by simp) (by simp)).grown hgrow (hro _ (by omega)) (hro _ (by omega)); have c5 := hb1.c1; have c6 := hb1.cf)
          have hzal : Below w.heap.size w (wr.alloc (.cells #[.int .i64 (1)] 3)) := hbl.alloc hbl.size _
          have hbl2 : Below w.heap.size w w1 := hzal.grown hgrow hzal.size (fun j e => by rcases Nat.lt_or_ge j w.heap.size with h | h; exact absurd e (hro j (by omega)); exact h)
          have zr2 : w.heap.size + 2 ≤ w1.heap.size := by have := hgrow.size; simp at this; omega
          have e1 : 1 = bitAt N k := by rw [bit_of, HQ.out]; have := HP.out; omega
          rw [e1, ← someBits_succ] at hown'
          have hown2 := hown'.kept (grown_setCell w1 (w.heap.size + 1) 1 (.slice a2 (k + 1) cap2)) (Or.inr (by cases a2 with
            | none => simp [Value.ownBlock]
            | some x => have := (f3 x rfl).1; simp [Value.ownBlock]; omega))
          go_wp2_with fail
          go_roundw
          case rel => exact ⟨k + 1, by omega, by rw [div_succ, HQ.out]; congr 1, ⟨_, hb1.set _, hown2⟩, hbl2.setCell (p := ⟨w.heap.size + 1, 1, none⟩) (by simp) _, by simpa [World.setCell] using zr2⟩
          case measure => simp [intOf]; omega
  · obtain rfl : n = (N : Int) := by omega
    go_enter Try.func14, Try.ntmps14
    go_wp2_with fail
    go_loopw [0, 4] (fun m b wr => ∃ k : Nat, k ≤ blen N ∧ m = .int .i64 (((N / 2 ^ k : Nat) : Int)) ∧ (∃ v, OfBox wr w.heap.size false v ∧ wr.ownsRow (w.heap.size + 2) 3 1 v k (someBits N k)) ∧ Below w.heap.size w wr ∧ w.heap.size + 2 ≤ wr.heap.size) (fun m _ _ => (intOf m).natAbs)
    case atStart => exact ⟨0, by omega, by simp, ⟨_, ⟨by go_simp, by go_simp, by go_simp, by go_simp, by go_simp, by go_simp, by go_simp⟩, World.ownsRow_nil _ _ _ _⟩, ((Below.refl _ _).alloc (Nat.le_refl _) _).alloc (by simp) _, by simp⟩
    case round =>
      obtain ⟨k, hk, rfl, ⟨v, hbox, hown⟩, hbl, zr⟩ := hrel
      obtain ⟨a0, cap0, rfl, g0, g1, g2, g3, g4⟩ := owned_parts hown
      clear g0 g1 g2 g4
      obtain ⟨q0, q1, q2, q3, q4, q5, q6⟩ := id hbox
      by_cases hz : N / 2 ^ k = 0
      · obtain rfl : k = blen N := by
          have : ¬ k < blen N := fun h => by have := lt_blen.1 h; have := Nat.div_pos this (pow_pos2 k); omega
          omega
        obtain ⟨a1, cap1, e1, h0, h1, h2, _⟩ := owned_bits hown
        cases e1
        have hz0 : ((N / 2 ^ blen N : Nat) : Int) = 0 := by omega
        simp only [hz0, Int.neg_zero]
        have G3 := Lib.hid g3
        clear hz hz0 hown g3 hk
        have hbx := Lib.hid hbox
        clear hbox
        go_wp2_with fail
        have hg1 : wr.grownBy ((wr.setCell ⟨w.heap.size, 0, none⟩ (.bool false)).setCell ⟨w.heap.size, 1, none⟩ (.slice a0 (blen N) cap0)) (some w.heap.size) := grown_trans (grown_setCell _ _ _ _) (grown_setCell _ _ _ _)
        refine bodyPost_ret (v := .agg #[.bool false, .slice a0 (blen N) cap0]) ?_ rfl ?_
        · simp [results, Try.results14, go_sem, q0, q1]
        · refine ⟨false, a0, blen N, cap0, rfl, ⟨by simp; try omega, by simp, h0, h1, ?_⟩, ?_⟩
          · have := h2.grown hg1 (fun x e => by have := (G3.out x e).1; simp; omega)
            simpa using this
          · exact ⟨hbl.grown hg1 hbl.size (fun r e => by cases e; exact Nat.le_refl _), fun x e => by have := (G3.out x e).1; omega⟩
      · obtain ⟨q, hq⟩ : ∃ q, N / 2 ^ k = q := ⟨_, rfl⟩
        have hkl : k < blen N := lt_blen.2 (by
          rcases Nat.lt_or_ge N (2 ^ k) with h | h
          · exact absurd (Nat.div_eq_of_lt h) hz
          · exact h)
        have hqN : q ≤ N := by rw [← hq]; exact Nat.div_le_self _ _
        have hbN : blen N ≤ 64 := blen_le.2 (by omega)
        have hq0 : 0 < q := by omega
        rw [hq]
        have HQ := Lib.hid hq
        have HB := Lib.hid hbox
        have G3 := Lib.hid g3
        clear hq hbox hz g3
        go_wp2_with (at_builtin; refine wpList_append_own _ rfl _ _ 27 rfl (w.heap.size + 2) 3 i0 (.int .i64 0) 1 8 Try.underlying27 hi hz0 hz1 hz2 rfl (by decide) _ _ _ rfl (hown.alloc _) ⟨wr.heap.size, 0, none⟩ 1 1 [.int .i64 ((q : Int) % 2)] rfl rfl (news_one _ _ _) (by simp [Value.oneCell']) (by unfold maxLen; omega) (by omega) (by simp; omega) ?_; intro v' w1 hown' hgrow _; obtain ⟨a2, cap2, rfl, _, _, _, f3, _⟩ := owned_parts hown'; have hal : wr.grownBy (wr.alloc (.cells #[.int .i64 ((q : Int) % 2)] 3)) none := below_row ((Below.refl _ _).alloc (Nat.le_refl _) _) none; have hro : ∀ j, j < w.heap.size + 2 → Value.ownBlock (.slice a0 k cap0) ≠ some j := (fun j hj e => by cases a0 with | none => cases e | some x => (simp [Value.ownBlock] at e; have := (G3.out x rfl).1; omega)); have hb1 := (HB.out.grown hal (by simp) (by simp)).grown hgrow (hro _ (by omega)) (hro _ (by omega)); have c5 := hb1.c1; have c6 := hb1.cf)
        have hzal : Below w.heap.size w (wr.alloc (.cells #[.int .i64 ((q : Int) % 2)] 3)) := hbl.alloc hbl.size _
        have hbl2 : Below w.heap.size w w1 := hzal.grown hgrow hzal.size (fun j e => by rcases Nat.lt_or_ge j w.heap.size with h | h; exact absurd e (hro j (by omega)); exact h)
        have zr2 : w.heap.size + 2 ≤ w1.heap.size := by have := hgrow.size; simp at this; omega
        have e1 : (q : Int) % 2 = bitAt N k := by rw [bit_of, HQ.out]; omega
        rw [e1, ← someBits_succ] at hown'
        have hown2 := hown'.kept (grown_setCell w1 (w.heap.size + 1) 1 (.slice a2 (k + 1) cap2)) (Or.inr (by cases a2 with
          | none => simp [Value.ownBlock]
          | some x => have := (f3 x rfl).1; simp [Value.ownBlock]; omega))
        go_wp2_with fail
        go_roundw
        case rel => exact ⟨k + 1, by omega, by rw [div_succ, HQ.out]; simp, ⟨_, hb1.set _, hown2⟩, hbl2.setCell (p := ⟨w.heap.size + 1, 1, none⟩) (by simp) _, by simpa [World.setCell] using zr2⟩
        case measure => simp [intOf]; omega

theorem set_far {w : World} {p a : Addr} {u v : Value} (h : w.cell? p = some v) (hn : p.block ≠ a.block) : (w.setCell a u).cell? p = some v :=
  (World.cell?_setCell_other w _ _ _ (fun e => hn (by rw [e]))).trans h
theorem RowAt.drew {w : World} {a : Option Addr} {len : Nat} {f : Nat → Value} (h : RowAt w a len f) : RowAt w.drew a len f := h.after ((Below.refl _ _).drew)

end Go.Proofs.Ytncodoaphfeefaa
