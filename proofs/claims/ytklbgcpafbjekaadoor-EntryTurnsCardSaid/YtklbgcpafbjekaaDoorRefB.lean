/- The reference's numbers as bits (package chattelref01): Of, Add, Sum, Int: whole numbers. -/
import Derived.Test.YtklbgcpafbjekaaDoorRefA
namespace Go.Proofs.YtklbgcpafbjekaaDoor
open Go.RowKit
set_option linter.unusedVariables false
set_option linter.unusedSimpArgs false


/-- A Big number z, as its two parts lie: the sign, and the row of bits. -/
structure BigAt (w : World) (z : Int) (s : Bool) (a : Option Addr) (l cap : Nat) : Prop where
  hs : s = decide (z < 0)
  hl : l = blen z.natAbs
  hc : l ≤ cap
  hm : cap ≤ maxLen
  hr : RowAt w a l (bitV z.natAbs)
theorem BigAt.after {w w' : World} {z : Int} {s : Bool} {a : Option Addr} {l cap : Nat} (h : BigAt w z s a l cap) (hb : Below w.heap.size w w') : BigAt w' z s a l cap :=
  ⟨h.hs, h.hl, h.hc, h.hm, h.hr.after hb⟩
theorem BigAt.grown {w w' : World} {row : Option Nat} {z : Int} {s : Bool} {a : Option Addr} {l cap : Nat} (h : BigAt w z s a l cap) (hg : w.grownBy w' row) (hr : ∀ x, a = some x → row ≠ some x.block) : BigAt w' z s a l cap :=
  ⟨h.hs, h.hl, h.hc, h.hm, h.hr.grown hg hr⟩
def BigEnd (z : Int) (w : World) (e : Ending) (w' : World) : Prop :=
  ∃ s a l cap, e = .returned (.agg #[.bool s, .slice a l cap]) ∧ BigAt w' z s a l cap ∧ Below w.heap.size w w' ∧ ∀ x, a = some x → w.heap.size ≤ x.block

theorem bit_of (N k : Nat) : bitAt N k = ((N / 2 ^ k % 2 : Nat) : Int) := rfl
theorem div_succ (N k : Nat) : N / 2 ^ (k + 1) = N / 2 ^ k / 2 := by rw [Nat.pow_succ, Nat.div_div_eq_div_mul]
theorem neg_tmod2 (q : Nat) : (-(q : Int)).tmod 2 = -((q % 2 : Nat) : Int) := by
  rw [Int.neg_tmod, Int.tmod_eq_emod_of_nonneg (by omega)]; omega
theorem neg_tdiv2 (q : Nat) : (-(q : Int)).tdiv 2 = -((q / 2 : Nat) : Int) := by
  rw [Int.neg_tdiv, Int.tdiv_eq_ediv_of_nonneg (by omega)]; omega

/-- The boxes of Of: the answer's and out's. -/
structure OfBox (w : World) (B : Nat) (s : Bool) (v : Value) : Prop where
  r0 : w.cell? ⟨B, 0, none⟩ = some (.bool false)
  r1 : w.cell? ⟨B, 1, none⟩ = some (.slice none 0 0)
  rf : w.frozen? ⟨B, 0, none⟩ = false
  rf' : w.frozen? ⟨B, 1, none⟩ = false
  c0 : w.cell? ⟨B + 1, 0, none⟩ = some (.bool s)
  c1 : w.cell? ⟨B + 1, 1, none⟩ = some v
  cf : w.frozen? ⟨B + 1, 1, none⟩ = false
theorem OfBox.grown {w w' : World} {B : Nat} {s : Bool} {v : Value} {row : Option Nat} (h : OfBox w B s v) (hg : w.grownBy w' row) (h0 : row ≠ some B) (h1 : row ≠ some (B + 1)) : OfBox w' B s v :=
  ⟨grown_cell hg h.r0 h0, grown_cell hg h.r1 h0, grown_frozen hg h.r0 h.rf h0, grown_frozen hg h.r1 h.rf' h0, grown_cell hg h.c0 h1, grown_cell hg h.c1 h1, grown_frozen hg h.c1 h.cf h1⟩
theorem OfBox.set {w : World} {B : Nat} {s : Bool} {v : Value} (h : OfBox w B s v) (v' : Value) : OfBox (w.setCell ⟨B + 1, 1, none⟩ v') B s v' :=
  ⟨(World.cell?_setCell_other w _ _ _ (by simp)).trans h.r0, (World.cell?_setCell_other w _ _ _ (by simp)).trans h.r1, by rw [World.frozen?_setCell]; exact h.rf, by rw [World.frozen?_setCell]; exact h.rf',
   (World.cell?_setCell_other w _ _ _ (by simp)).trans h.c0, World.cell?_setCell_same w _ _ h.c1, by rw [World.frozen?_setCell]; exact h.cf⟩



set_option maxHeartbeats 1000000 in
theorem of_big (n : Int) (hb1 : -9223372036854775808 ≤ n) (hb2 : n ≤ 9223372036854775807) (w : World) : Calls Tryd.prog 33 #[.int .i64 n] w (BigEnd n w) := by
  obtain ⟨i0, hi, hz0, hz1, hz2⟩ := info_parts infoInt
  obtain ⟨N, hN⟩ : ∃ N : Nat, n.natAbs = N := ⟨_, rfl⟩
  by_cases hs : n < 0
  · obtain rfl : n = -(N : Int) := by omega
    have hsN : -(N : Int) < 0 := hs
    have hN0 : 0 < N := by omega
    go_enter Tryd.func33, Tryd.ntmps33
    go_wp2_with fail
    go_loopw [0, 4] (fun m b wr => ∃ k : Nat, k ≤ blen N ∧ m = .int .i64 (-((N / 2 ^ k : Nat) : Int)) ∧ (∃ v, OfBox wr w.heap.size true v ∧ wr.ownsRow (w.heap.size + 2) 3 1 v k (someBits N k)) ∧ Below w.heap.size w wr ∧ w.heap.size + 2 ≤ wr.heap.size) (fun m _ _ => (intOf m).natAbs)
    case atStart => exact ⟨0, by omega, by simp, ⟨_, ⟨by go_simp, by go_simp, by go_simp, by go_simp, by go_simp, by go_simp, by go_simp⟩, World.ownsRow_nil _ _ _ _⟩, ((Below.refl _ _).alloc (Nat.le_refl _) _).alloc (by simp) _, by simp⟩
    case round =>
      obtain ⟨k, hk, rfl, ⟨v, hbox, hown⟩, hbl, zr⟩ := hrel
      obtain ⟨a0, cap0, rfl, g0, g1, g2, g3, g4⟩ := owned_parts hown
      clear g0 g1 g2 g4
      obtain ⟨q0, q1, q2, q3, q4, q5, q6⟩ := id hbox
      by_cases hz : N / 2 ^ k = 0
      · obtain rfl : k = blen N := by
          have : ¬ k < blen N := fun h => by have := lt_blen.1 h; have := Nat.div_pos this (pow_pos2 k); omega
          omega
        obtain ⟨a1, cap1, e1, h0, h1, h2, _⟩ := owned_bits hown
        cases e1
        have hz0 : ((N / 2 ^ blen N : Nat) : Int) = 0 := by omega
        simp only [hz0, Int.neg_zero]
        have G3 := Lib.hid g3
        clear hz hz0 hown g3 hk
        have hbx := Lib.hid hbox
        clear hbox
        go_wp2_with fail
        have hg1 : wr.grownBy ((wr.setCell ⟨w.heap.size, 0, none⟩ (.bool true)).setCell ⟨w.heap.size, 1, none⟩ (.slice a0 (blen N) cap0)) (some w.heap.size) := grown_trans (grown_setCell _ _ _ _) (grown_setCell _ _ _ _)
        refine bodyPost_ret (v := .agg #[.bool true, .slice a0 (blen N) cap0]) ?_ rfl ?_
        · simp [results, Tryd.results33, go_sem, q0, q1]
        · refine ⟨true, a0, blen N, cap0, rfl, ⟨by simp; try omega, by simp, h0, h1, ?_⟩, ?_⟩
          · have := h2.grown hg1 (fun x e => by have := (G3.out x e).1; simp; omega)
            simpa using this
          · exact ⟨hbl.grown hg1 hbl.size (fun r e => by cases e; exact Nat.le_refl _), fun x e => by have := (G3.out x e).1; omega⟩
      · obtain ⟨q, hq⟩ : ∃ q, N / 2 ^ k = q := ⟨_, rfl⟩
        have hkl : k < blen N := lt_blen.2 (by
          rcases Nat.lt_or_ge N (2 ^ k) with h | h
          · exact absurd (Nat.div_eq_of_lt h) hz
          · exact h)
        have hqN : q ≤ N := by rw [← hq]; exact Nat.div_le_self _ _
        have hbN : blen N ≤ 64 := blen_le.2 (by omega)
        have hq0 : 0 < q := by omega
        rw [hq]
        have HQ := Lib.hid hq
        have HB := Lib.hid hbox
        have G3 := Lib.hid g3
        clear hq hbox hz g3
        have ht := neg_tmod2 q
        have hd := neg_tdiv2 q
        rcases Nat.mod_two_eq_zero_or_one q with hp | hp
        · rw [hp] at ht
          have HP := Lib.hid hp
          clear hp
          simp only [Int.natCast_zero, Int.neg_zero, Int.ofNat_zero, Int.cast_ofNat_Int] at ht
          go_wp2_with (at_builtin; refine wpList_append_own _ rfl _ _ 66 rfl (w.heap.size + 2) 3 i0 (.int .i64 0) 1 8 Tryd.underlying66 hi hz0 hz1 hz2 rfl (by decide) _ _ _ rfl (hown.alloc _) ⟨wr.heap.size, 0, none⟩ 1 1 [.int .i64 (0)] rfl rfl (news_one _ _ _) (by simp [Value.oneCell']) (by unfold maxLen; omega) (by omega) (by simp; omega) ?_; intro v' w1 hown' hgrow _; obtain ⟨a2, cap2, rfl, _, _, _, f3, _⟩ := owned_parts hown'; have hal : wr.grownBy (wr.alloc (.cells #[.int .i64 (0)] 3)) none := below_row ((Below.refl _ _).alloc (Nat.le_refl _) _) none; have hro : ∀ j, j < w.heap.size + 2 → Value.ownBlock (.slice a0 k cap0) ≠ some j := (fun j hj e => by cases a0 with | none => cases e | some x => (simp [Value.ownBlock] at e; have := (G3.out x rfl).1; omega)); have hb1 := (HB.out.grown hal (by simp) (by simp)).grown hgrow (hro _ (by omega)) (hro _ (by omega)); have c5 := hb1.c1; have c6 := hb1.cf)
          have hzal : Below w.heap.size w (wr.alloc (.cells #[.int .i64 (0)] 3)) := hbl.alloc hbl.size _
          have hbl2 : Below w.heap.size w w1 := hzal.grown hgrow hzal.size (fun j e => by rcases Nat.lt_or_ge j w.heap.size with h | h; exact absurd e (hro j (by omega)); exact h)
          have zr2 : w.heap.size + 2 ≤ w1.heap.size := by have := hgrow.size; simp at this; omega
          have e1 : 0 = bitAt N k := by rw [bit_of, HQ.out]; have := HP.out; omega
          rw [e1, ← someBits_succ] at hown'
          have hown2 := hown'.kept (grown_setCell w1 (w.heap.size + 1) 1 (.slice a2 (k + 1) cap2)) (Or.inr (by cases a2 with
            | none => simp [Value.ownBlock]
            | some x => have := (f3 x rfl).1; simp [Value.ownBlock]; omega))
          go_wp2_with fail
          go_roundw
          case rel => exact ⟨k + 1, by omega, by rw [div_succ, HQ.out]; congr 1, ⟨_, hb1.set _, hown2⟩, hbl2.setCell (p := ⟨w.heap.size + 1, 1, none⟩) (by simp) _, by simpa [World.setCell] using zr2⟩
          case measure => simp [intOf]; omega
        · rw [hp] at ht
          have HP := Lib.hid hp
          clear hp
          simp only [Int.natCast_one, Int.cast_ofNat_Int] at ht
          go_wp2_with (at_builtin; refine wpList_append_own _ rfl _ _ 66 rfl (w.heap.size + 2) 3 i0 (.int .i64 0) 1 8 Tryd.underlying66 hi hz0 hz1 hz2 rfl (by decide) _ _ _ rfl (hown.alloc _) ⟨wr.heap.size, 0, none⟩ 1 1 [.int .i64 (1)] rfl rfl (news_one _ _ _) (by simp [Value.oneCell']) (by unfold maxLen; omega) (by omega) (by simp; omega) ?_; intro v' w1 hown' hgrow _; obtain ⟨a2, cap2, rfl, _, _, _, f3, _⟩ := owned_parts hown'; have hal : wr.grownBy (wr.alloc (.cells #[.int .i64 (1)] 3)) none := below_row ((Below.refl _ _).alloc (Nat.le_refl _) _) none; have hro : ∀ j, j < w.heap.size + 2 → Value.ownBlock (.slice a0 k cap0) ≠ some j := (fun j hj e => by cases a0 with | none => cases e | some x => (simp [Value.ownBlock] at e; have := (G3.out x rfl).1; omega)); have hb1 := (HB.out.grown hal (by simp) (by simp)).grown hgrow (hro _ (by omega)) (hro _ (by omega)); have c5 := hb1.c1; have c6 := hb1.cf)
          have hzal : Below w.heap.size w (wr.alloc (.cells #[.int .i64 (1)] 3)) := hbl.alloc hbl.size _
          have hbl2 : Below w.heap.size w w1 := hzal.grown hgrow hzal.size (fun j e => by rcases Nat.lt_or_ge j w.heap.size with h | h; exact absurd e (hro j (by omega)); exact h)
          have zr2 : w.heap.size + 2 ≤ w1.heap.size := by have := hgrow.size; simp at this; omega
          have e1 : 1 = bitAt N k := by rw [bit_of, HQ.out]; have := HP.out; omega
          rw [e1, ← someBits_succ] at hown'
          have hown2 := hown'.kept (grown_setCell w1 (w.heap.size + 1) 1 (.slice a2 (k + 1) cap2)) (Or.inr (by cases a2 with
            | none => simp [Value.ownBlock]
            | some x => have := (f3 x rfl).1; simp [Value.ownBlock]; omega))
          go_wp2_with fail
          go_roundw
          case rel => exact ⟨k + 1, by omega, by rw [div_succ, HQ.out]; congr 1, ⟨_, hb1.set _, hown2⟩, hbl2.setCell (p := ⟨w.heap.size + 1, 1, none⟩) (by simp) _, by simpa [World.setCell] using zr2⟩
          case measure => simp [intOf]; omega
  · obtain rfl : n = (N : Int) := by omega
    go_enter Tryd.func33, Tryd.ntmps33
    go_wp2_with fail
    go_loopw [0, 4] (fun m b wr => ∃ k : Nat, k ≤ blen N ∧ m = .int .i64 (((N / 2 ^ k : Nat) : Int)) ∧ (∃ v, OfBox wr w.heap.size false v ∧ wr.ownsRow (w.heap.size + 2) 3 1 v k (someBits N k)) ∧ Below w.heap.size w wr ∧ w.heap.size + 2 ≤ wr.heap.size) (fun m _ _ => (intOf m).natAbs)
    case atStart => exact ⟨0, by omega, by simp, ⟨_, ⟨by go_simp, by go_simp, by go_simp, by go_simp, by go_simp, by go_simp, by go_simp⟩, World.ownsRow_nil _ _ _ _⟩, ((Below.refl _ _).alloc (Nat.le_refl _) _).alloc (by simp) _, by simp⟩
    case round =>
      obtain ⟨k, hk, rfl, ⟨v, hbox, hown⟩, hbl, zr⟩ := hrel
      obtain ⟨a0, cap0, rfl, g0, g1, g2, g3, g4⟩ := owned_parts hown
      clear g0 g1 g2 g4
      obtain ⟨q0, q1, q2, q3, q4, q5, q6⟩ := id hbox
      by_cases hz : N / 2 ^ k = 0
      · obtain rfl : k = blen N := by
          have : ¬ k < blen N := fun h => by have := lt_blen.1 h; have := Nat.div_pos this (pow_pos2 k); omega
          omega
        obtain ⟨a1, cap1, e1, h0, h1, h2, _⟩ := owned_bits hown
        cases e1
        have hz0 : ((N / 2 ^ blen N : Nat) : Int) = 0 := by omega
        simp only [hz0, Int.neg_zero]
        have G3 := Lib.hid g3
        clear hz hz0 hown g3 hk
        have hbx := Lib.hid hbox
        clear hbox
        go_wp2_with fail
        have hg1 : wr.grownBy ((wr.setCell ⟨w.heap.size, 0, none⟩ (.bool false)).setCell ⟨w.heap.size, 1, none⟩ (.slice a0 (blen N) cap0)) (some w.heap.size) := grown_trans (grown_setCell _ _ _ _) (grown_setCell _ _ _ _)
        refine bodyPost_ret (v := .agg #[.bool false, .slice a0 (blen N) cap0]) ?_ rfl ?_
        · simp [results, Tryd.results33, go_sem, q0, q1]
        · refine ⟨false, a0, blen N, cap0, rfl, ⟨by simp; try omega, by simp, h0, h1, ?_⟩, ?_⟩
          · have := h2.grown hg1 (fun x e => by have := (G3.out x e).1; simp; omega)
            simpa using this
          · exact ⟨hbl.grown hg1 hbl.size (fun r e => by cases e; exact Nat.le_refl _), fun x e => by have := (G3.out x e).1; omega⟩
      · obtain ⟨q, hq⟩ : ∃ q, N / 2 ^ k = q := ⟨_, rfl⟩
        have hkl : k < blen N := lt_blen.2 (by
          rcases Nat.lt_or_ge N (2 ^ k) with h | h
          · exact absurd (Nat.div_eq_of_lt h) hz
          · exact h)
        have hqN : q ≤ N := by rw [← hq]; exact Nat.div_le_self _ _
        have hbN : blen N ≤ 64 := blen_le.2 (by omega)
        have hq0 : 0 < q := by omega
        rw [hq]
        have HQ := Lib.hid hq
        have HB := Lib.hid hbox
        have G3 := Lib.hid g3
        clear hq hbox hz g3
        go_wp2_with (at_builtin; refine wpList_append_own _ rfl _ _ 66 rfl (w.heap.size + 2) 3 i0 (.int .i64 0) 1 8 Tryd.underlying66 hi hz0 hz1 hz2 rfl (by decide) _ _ _ rfl (hown.alloc _) ⟨wr.heap.size, 0, none⟩ 1 1 [.int .i64 ((q : Int) % 2)] rfl rfl (news_one _ _ _) (by simp [Value.oneCell']) (by unfold maxLen; omega) (by omega) (by simp; omega) ?_; intro v' w1 hown' hgrow _; obtain ⟨a2, cap2, rfl, _, _, _, f3, _⟩ := owned_parts hown'; have hal : wr.grownBy (wr.alloc (.cells #[.int .i64 ((q : Int) % 2)] 3)) none := below_row ((Below.refl _ _).alloc (Nat.le_refl _) _) none; have hro : ∀ j, j < w.heap.size + 2 → Value.ownBlock (.slice a0 k cap0) ≠ some j := (fun j hj e => by cases a0 with | none => cases e | some x => (simp [Value.ownBlock] at e; have := (G3.out x rfl).1; omega)); have hb1 := (HB.out.grown hal (by simp) (by simp)).grown hgrow (hro _ (by omega)) (hro _ (by omega)); have c5 := hb1.c1; have c6 := hb1.cf)
        have hzal : Below w.heap.size w (wr.alloc (.cells #[.int .i64 ((q : Int) % 2)] 3)) := hbl.alloc hbl.size _
        have hbl2 : Below w.heap.size w w1 := hzal.grown hgrow hzal.size (fun j e => by rcases Nat.lt_or_ge j w.heap.size with h | h; exact absurd e (hro j (by omega)); exact h)
        have zr2 : w.heap.size + 2 ≤ w1.heap.size := by have := hgrow.size; simp at this; omega
        have e1 : (q : Int) % 2 = bitAt N k := by rw [bit_of, HQ.out]; omega
        rw [e1, ← someBits_succ] at hown'
        have hown2 := hown'.kept (grown_setCell w1 (w.heap.size + 1) 1 (.slice a2 (k + 1) cap2)) (Or.inr (by cases a2 with
          | none => simp [Value.ownBlock]
          | some x => have := (f3 x rfl).1; simp [Value.ownBlock]; omega))
        go_wp2_with fail
        go_roundw
        case rel => exact ⟨k + 1, by omega, by rw [div_succ, HQ.out]; simp, ⟨_, hb1.set _, hown2⟩, hbl2.setCell (p := ⟨w.heap.size + 1, 1, none⟩) (by simp) _, by simpa [World.setCell] using zr2⟩
        case measure => simp [intOf]; omega

theorem set_far {w : World} {p a : Addr} {u v : Value} (h : w.cell? p = some v) (hn : p.block ≠ a.block) : (w.setCell a u).cell? p = some v :=
  (World.cell?_setCell_other w _ _ _ (fun e => hn (by rw [e]))).trans h
theorem RowAt.drew {w : World} {a : Option Addr} {len : Nat} {f : Nat → Value} (h : RowAt w a len f) : RowAt w.drew a len f := h.after ((Below.refl _ _).drew)

/-- The boxes of Add: its two numbers, and the answer's. -/
structure AddBox (w : World) (B : Nat) (s t : Bool) (a a' : Option Addr) (l l' cap cap' : Nat) : Prop where
  c0 : w.cell? ⟨B, 0, none⟩ = some (.bool s)
  c1 : w.cell? ⟨B, 1, none⟩ = some (.slice a l cap)
  d0 : w.cell? ⟨B + 1, 0, none⟩ = some (.bool t)
  d1 : w.cell? ⟨B + 1, 1, none⟩ = some (.slice a' l' cap')
  r0 : w.cell? ⟨B + 1 + 1, 0, none⟩ = some (.bool false)
  r1 : w.cell? ⟨B + 1 + 1, 1, none⟩ = some (.slice none 0 0)
  f0 : w.frozen? ⟨B + 1 + 1, 0, none⟩ = false
  f1 : w.frozen? ⟨B + 1 + 1, 1, none⟩ = false
theorem AddBox.after {w w' : World} {B : Nat} {s t : Bool} {a a' : Option Addr} {l l' cap cap' : Nat} (h : AddBox w B s t a a' l l' cap cap') (hb : Below w.heap.size w w') : AddBox w' B s t a a' l l' cap cap' :=
  ⟨below_cell hb h.c0, below_cell hb h.c1, below_cell hb h.d0, below_cell hb h.d1, below_cell hb h.r0, below_cell hb h.r1, below_frozen hb h.r0 h.f0, below_frozen hb h.r1 h.f1⟩

/-- The answer stored, and read back. -/
theorem add_end {w w' : World} {B : Nat} {z : Int} {s : Bool} {a : Option Addr} {l cap : Nat} (h : BigAt w' z s a l cap) (hB : w.heap.size ≤ B) (hb : Below w.heap.size w w') (ha : ∀ x, a = some x → x.block ≠ B) :
    BigAt ((w'.setCell ⟨B, 0, none⟩ (.bool s)).setCell ⟨B, 1, none⟩ (.slice a l cap)) z s a l cap ∧ Below w.heap.size w ((w'.setCell ⟨B, 0, none⟩ (.bool s)).setCell ⟨B, 1, none⟩ (.slice a l cap)) := by
  have hg : w'.grownBy ((w'.setCell ⟨B, 0, none⟩ (.bool s)).setCell ⟨B, 1, none⟩ (.slice a l cap)) (some B) := grown_trans (grown_setCell _ _ _ _) (grown_setCell _ _ _ _)
  exact ⟨h.grown hg (fun x e => by have := ha x e; simp; omega), hb.grown hg hb.size (fun r e => by cases e; exact hB)⟩

set_option maxHeartbeats 1000000 in
theorem add_big (z1 z2 : Int) (s t : Bool) (a a' : Option Addr) (l l' cap cap' : Nat) (w : World) (h1 : BigAt w z1 s a l cap) (h2 : BigAt w z2 t a' l' cap') (b1 : blen z1.natAbs ≤ 5000) (b2 : blen z2.natAbs ≤ 5000) :
    Calls Tryd.prog 32 #[.agg #[.bool s, .slice a l cap], .agg #[.bool t, .slice a' l' cap']] w (BigEnd (z1 + z2) w) := by
  obtain ⟨hs, rfl, hc, hm, hr⟩ := h1
  obtain ⟨ht, rfl, hc', hm', hr'⟩ := h2
  have hal : Below w.heap.size w (((w.alloc (.cells #[.bool s, .slice a (blen z1.natAbs) cap] 69)).alloc (.cells #[.bool t, .slice a' (blen z2.natAbs) cap'] 69)).alloc (.cells #[.bool false, .slice none 0 0] 69)) :=
    (((Below.refl _ _).alloc (Nat.le_refl _) _).alloc (by simp) _).alloc (by simp; omega) _
  have hx : AddBox (((w.alloc (.cells #[.bool s, .slice a (blen z1.natAbs) cap] 69)).alloc (.cells #[.bool t, .slice a' (blen z2.natAbs) cap'] 69)).alloc (.cells #[.bool false, .slice none 0 0] 69)) w.heap.size s t a a' (blen z1.natAbs) (blen z2.natAbs) cap cap' :=
    ⟨by go_simp, by go_simp, by go_simp, by go_simp, by go_simp, by go_simp, by go_simp, by go_simp⟩
  have Hs := Lib.hid hs
  have Ht := Lib.hid ht
  clear hs ht
  by_cases hst : s = t
  · subst hst
    have HZ : Hid (z1.natAbs + z2.natAbs = (z1 + z2).natAbs ∧ s = decide (z1 + z2 < 0)) := by
      have e1 := Hs.out
      have e2 := Ht.out
      cases s
      · simp at e1 e2
        exact ⟨by omega, by simp; omega⟩
      · simp at e1 e2
        exact ⟨by omega, by simp; omega⟩
    clear Hs Ht
    go_enter Tryd.func32, Tryd.ntmps32
    go_wp2_with fail
    obtain ⟨wa, hwa⟩ : ∃ wa, (((w.alloc (.cells #[.bool s, .slice a (blen z1.natAbs) cap] 69)).alloc (.cells #[.bool s, .slice a' (blen z2.natAbs) cap'] 69)).alloc (.cells #[.bool false, .slice none 0 0] 69)) = wa := ⟨_, rfl⟩
    rw [hwa] at hal hx ⊢
    have hsz : wa.heap.size = w.heap.size + 1 + 1 + 1 := by rw [← hwa]; simp
    have HSZ := Lib.hid hsz
    have n0 : w.heap.size ≠ w.heap.size + 1 + 1 := by omega
    have n1 : w.heap.size + 1 ≠ w.heap.size + 1 + 1 := by omega
    have hr2 := hr.after hal
    have hr3 := hr'.after hal
    clear hwa hsz hr hr'
    go_region_held3 (fun w' => w'.cell? ⟨w.heap.size, 0, none⟩ = some (.bool s) ∧ w'.cell? ⟨w.heap.size, 1, none⟩ = some (.slice a (blen z1.natAbs) cap) ∧ w'.cell? ⟨w.heap.size + 1, 1, none⟩ = some (.slice a' (blen z2.natAbs) cap'))
      (first | exact ⟨hx.c0, hx.c1, hx.d1⟩ | exact ⟨hx3.c0, hx3.c1, hx3.d1⟩ | exact ⟨set_far (set_far q0 n0) n0, set_far (set_far q1 n0) n0, set_far (set_far q3 n1) n1⟩)
      (first | (go_at_call 35; refine (plus_bits a a' cap cap' z1.natAbs z2.natAbs _ hr2.drew hr3.drew (by omega) (by omega)).mono ?_; rintro e w3 ⟨c3, cap3, rfl, g1, g2, g3, g4, g5⟩; have G5 := Lib.hid g5; clear g5; have hx3 := (hx.after ((Below.refl _ _).drew)).after g4; obtain ⟨q0, q1, q2, q3, q4, q5, q6, q7⟩ := id hx3))
    have hbw : Below w.heap.size w w3 := (hal.trans ((Below.refl _ _).drew)).trans (g4.mono (by have := HSZ.out; simp; omega))
    have HB : BigAt w3 (z1 + z2) s c3 (blen (z1.natAbs + z2.natAbs)) cap3 := ⟨HZ.out.2, by rw [HZ.out.1], g1, g2, by rw [← HZ.out.1]; exact g3⟩
    go_wp2_with fail
    refine bodyPost_ret (v := .agg #[.bool s, .slice c3 (blen (z1.natAbs + z2.natAbs)) cap3]) ?_ rfl ?_
    · simp [results, Tryd.results32, go_sem, q4, q5]
    · obtain ⟨k1, k2⟩ := add_end (B := w.heap.size + 1 + 1) HB (by omega) hbw (fun x e => by have := G5.out x e; have := HSZ.out; simp at *; omega)
      exact ⟨_, _, _, _, rfl, k1, k2, fun x e => by have := G5.out x e; have := HSZ.out; simp at *; omega⟩
  · rcases Nat.lt_or_ge z1.natAbs z2.natAbs with hlt | hge
    · have eo : ordN z1.natAbs z2.natAbs = -1 := by unfold ordN; rw [if_pos hlt]
      have HZ : Hid (z2.natAbs - z1.natAbs = (z1 + z2).natAbs ∧ t = decide (z1 + z2 < 0)) := by
        have e1 := Hs.out
        have e2 := Ht.out
        cases s <;> cases t <;> simp at e1 e2 hst <;> exact ⟨by omega, by simp; omega⟩
      have hd : (s == t) = false := by rw [beq_eq_false_iff_ne]; exact hst
      clear Hs Ht hst
      go_enter Tryd.func32, Tryd.ntmps32
      go_wp2_with fail
      obtain ⟨wa, hwa⟩ : ∃ wa, (((w.alloc (.cells #[.bool s, .slice a (blen z1.natAbs) cap] 69)).alloc (.cells #[.bool t, .slice a' (blen z2.natAbs) cap'] 69)).alloc (.cells #[.bool false, .slice none 0 0] 69)) = wa := ⟨_, rfl⟩
      rw [hwa] at hal hx ⊢
      have hsz : wa.heap.size = w.heap.size + 1 + 1 + 1 := by rw [← hwa]; simp
      have HSZ := Lib.hid hsz
      have n0 : w.heap.size ≠ w.heap.size + 1 + 1 := by omega
      have n1 : w.heap.size + 1 ≠ w.heap.size + 1 + 1 := by omega
      have hr2 := hr.after hal
      have hr3 := hr'.after hal
      clear hwa hsz hr hr'
      obtain ⟨q0, q1, q2, q3, q4, q5, q6, q7⟩ := id hx
      refine (order_bits a a' cap cap' z1.natAbs z2.natAbs _ hr2 hr3 (by omega) (by omega)).mono ?_
      rintro e w2 ⟨rfl, hb2⟩
      rw [eo]
      have hxb := hx.after hb2
      have hr4 := hr2.after hb2
      have hr5 := hr3.after hb2
      have zb := hb2.size
      clear q0 q1 q2 q3 q4 q5 q6 q7 hx hr2 hr3
      go_wp2_with fail
      go_region_held3 (fun w' => w'.cell? ⟨w.heap.size + 1, 0, none⟩ = some (.bool t) ∧ w'.cell? ⟨w.heap.size, 1, none⟩ = some (.slice a (blen z1.natAbs) cap) ∧ w'.cell? ⟨w.heap.size + 1, 1, none⟩ = some (.slice a' (blen z2.natAbs) cap'))
        (first | exact ⟨hxb.d0, hxb.c1, hxb.d1⟩ | exact ⟨hx3.d0, hx3.c1, hx3.d1⟩ | exact ⟨set_far (set_far q2 n1) n1, set_far (set_far q1 n0) n0, set_far (set_far q3 n1) n1⟩)
        (first | (go_at_call 37; refine (minus_bits a' a cap' cap z2.natAbs z1.natAbs _ hr5.drew hr4.drew (by omega) (by omega)).mono ?_; rintro e w3 ⟨c3, cap3, rfl, g1, g2, g3, g4, g5⟩; have G5 := Lib.hid g5; clear g5; have hx3 := (hxb.after ((Below.refl _ _).drew)).after g4; obtain ⟨q0, q1, q2, q3, q4, q5, q6, q7⟩ := id hx3))
      have hbw : Below w.heap.size w w3 := (hal.trans ((hb2.mono (by have := HSZ.out; omega)).trans ((Below.refl _ _).drew))).trans (g4.mono (by have := HSZ.out; simp; omega))
      have HB : BigAt w3 (z1 + z2) t c3 (blen (z2.natAbs - z1.natAbs)) cap3 := ⟨HZ.out.2, by rw [HZ.out.1], g1, g2, by rw [← HZ.out.1]; exact g3⟩
      go_wp2_with fail
      refine bodyPost_ret (v := .agg #[.bool t, .slice c3 (blen (z2.natAbs - z1.natAbs)) cap3]) ?_ rfl ?_
      · simp [results, Tryd.results32, go_sem, q4, q5]
      · obtain ⟨k1, k2⟩ := add_end (B := w.heap.size + 1 + 1) HB (by omega) hbw (fun x e => by have := G5.out x e; have := HSZ.out; simp at *; omega)
        exact ⟨_, _, _, _, rfl, k1, k2, fun x e => by have := G5.out x e; have := HSZ.out; simp at *; omega⟩
    · have eo : 0 ≤ ordN z1.natAbs z2.natAbs := by unfold ordN; split <;> (try split) <;> omega
      have HZ : Hid (z1.natAbs - z2.natAbs = (z1 + z2).natAbs ∧ (s && decide (0 < blen (z1.natAbs - z2.natAbs))) = decide (z1 + z2 < 0)) := by
        have e1 := Hs.out
        have e2 := Ht.out
        have e3 := @blen_eq_zero (z1.natAbs - z2.natAbs)
        cases s <;> cases t <;> simp at e1 e2 hst <;> exact ⟨by omega, by simp; omega⟩
      have hd : (s == t) = false := by rw [beq_eq_false_iff_ne]; exact hst
      clear Hs Ht hst
      go_enter Tryd.func32, Tryd.ntmps32
      go_wp2_with fail
      obtain ⟨wa, hwa⟩ : ∃ wa, (((w.alloc (.cells #[.bool s, .slice a (blen z1.natAbs) cap] 69)).alloc (.cells #[.bool t, .slice a' (blen z2.natAbs) cap'] 69)).alloc (.cells #[.bool false, .slice none 0 0] 69)) = wa := ⟨_, rfl⟩
      rw [hwa] at hal hx ⊢
      have hsz : wa.heap.size = w.heap.size + 1 + 1 + 1 := by rw [← hwa]; simp
      have HSZ := Lib.hid hsz
      have n0 : w.heap.size ≠ w.heap.size + 1 + 1 := by omega
      have n1 : w.heap.size + 1 ≠ w.heap.size + 1 + 1 := by omega
      have hr2 := hr.after hal
      have hr3 := hr'.after hal
      clear hwa hsz hr hr'
      obtain ⟨q0, q1, q2, q3, q4, q5, q6, q7⟩ := id hx
      refine (order_bits a a' cap cap' z1.natAbs z2.natAbs _ hr2 hr3 (by omega) (by omega)).mono ?_
      rintro e w2 ⟨rfl, hb2⟩
      have hxb := hx.after hb2
      have hr4 := hr2.after hb2
      have hr5 := hr3.after hb2
      have zb := hb2.size
      clear q0 q1 q2 q3 q4 q5 q6 q7 hx hr2 hr3
      obtain ⟨q0, q1, q2, q3, q4, q5, q6, q7⟩ := id hxb
      go_wp2_with fail
      refine (minus_bits a a' cap cap' z1.natAbs z2.natAbs _ hr4 hr5 (by omega) (by omega)).mono ?_
      rintro e w3 ⟨c3, cap3, rfl, g1, g2, g3, g4, g5⟩
      have G5 := Lib.hid g5
      clear g5
      have hx3 := hxb.after g4
      clear q0 q1 q2 q3 q4 q5 q6 q7
      obtain ⟨q0, q1, q2, q3, q4, q5, q6, q7⟩ := id hx3
      have hbw : Below w.heap.size w w3 := (hal.trans (hb2.mono (by have := HSZ.out; omega))).trans (g4.mono (by have := HSZ.out; omega))
      have HB : BigAt w3 (z1 + z2) (s && decide (0 < blen (z1.natAbs - z2.natAbs))) c3 (blen (z1.natAbs - z2.natAbs)) cap3 := ⟨HZ.out.2, by rw [HZ.out.1], g1, g2, by rw [← HZ.out.1]; exact g3⟩
      cases s
      · rw [show ((_ : Bool) && decide (0 < blen (z1.natAbs - z2.natAbs))) = false from by simp] at HB
        go_wp2_with fail
        refine bodyPost_ret (v := .agg #[.bool false, .slice c3 (blen (z1.natAbs - z2.natAbs)) cap3]) ?_ rfl ?_
        · simp [results, Tryd.results32, go_sem, q4, q5]
        · obtain ⟨k1, k2⟩ := add_end (B := w.heap.size + 1 + 1) HB (by omega) hbw (fun x e => by have := G5.out x e; have := HSZ.out; simp at *; omega)
          exact ⟨_, _, _, _, rfl, k1, k2, fun x e => by have := G5.out x e; have := HSZ.out; simp at *; omega⟩
      · by_cases hl0 : 0 < blen (z1.natAbs - z2.natAbs)
        · rw [show ((_ : Bool) && decide (0 < blen (z1.natAbs - z2.natAbs))) = true from by simp [hl0]] at HB
          go_wp2_with fail
          refine bodyPost_ret (v := .agg #[.bool true, .slice c3 (blen (z1.natAbs - z2.natAbs)) cap3]) ?_ rfl ?_
          · simp [results, Tryd.results32, go_sem, q4, q5]
          · obtain ⟨k1, k2⟩ := add_end (B := w.heap.size + 1 + 1) HB (by omega) hbw (fun x e => by have := G5.out x e; have := HSZ.out; simp at *; omega)
            exact ⟨_, _, _, _, rfl, k1, k2, fun x e => by have := G5.out x e; have := HSZ.out; simp at *; omega⟩
        · rw [show ((_ : Bool) && decide (0 < blen (z1.natAbs - z2.natAbs))) = false from by simp [hl0]] at HB
          go_wp2_with fail
          refine bodyPost_ret (v := .agg #[.bool false, .slice c3 (blen (z1.natAbs - z2.natAbs)) cap3]) ?_ rfl ?_
          · simp [results, Tryd.results32, go_sem, q4, q5]
          · obtain ⟨k1, k2⟩ := add_end (B := w.heap.size + 1 + 1) HB (by omega) hbw (fun x e => by have := G5.out x e; have := HSZ.out; simp at *; omega)
            exact ⟨_, _, _, _, rfl, k1, k2, fun x e => by have := G5.out x e; have := HSZ.out; simp at *; omega⟩

end Go.Proofs.YtklbgcpafbjekaaDoor
