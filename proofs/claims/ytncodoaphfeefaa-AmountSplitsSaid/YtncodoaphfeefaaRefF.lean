/- The reference's numbers as bits (package chattelref01): Parts, the walk. -/
import Derived.Test.YtncodoaphfeefaaRefE
namespace Go.Proofs.Ytncodoaphfeefaa
open Go.RowKit
set_option linter.unusedVariables false
set_option linter.unusedSimpArgs false

/-- What Parts ends with. -/
def PartsEnd (q r : Nat) (w : World) (e : Ending) (w' : World) : Prop :=
  ∃ a l cap b m cap', e = .returned (.tuple #[.agg #[.bool false, .slice a l cap], .agg #[.bool false, .slice b m cap']]) ∧ BigAt w' q false a l cap ∧ BigAt w' r false b m cap' ∧ Below w.heap.size w w' ∧ (∀ x, a = some x → w.heap.size ≤ x.block) ∧ ∀ x, b = some x → w.heap.size ≤ x.block

theorem RowAt.far {w : World} {a : Option Addr} {len : Nat} {f : Nat → Value} {B j : Nat} {v : Value} (h : RowAt w a len f) (hn : ∀ x, a = some x → x.block ≠ B) : RowAt (w.setCell ⟨B, j, none⟩ v) a len f :=
  h.grown (grown_setCell w B j v) (fun x e h => hn x e (by cases h; rfl))

theorem parts_end {w wr : World} {B Q R rc L : Nat} {c : Option Addr} (hB : w.heap.size + 1 + 1 + 1 + 1 = B) (hb : Below w.heap.size w wr) (hq : RowAt wr (some ⟨B, 0, none⟩) (blen Q) (bitV Q)) (hql : blen Q ≤ L) (hL : L ≤ 5000)
    (hr : RowAt wr c (blen R) (bitV R)) (h1 : blen R ≤ rc) (h2 : rc ≤ maxLen) (h3 : ∀ x, c = some x → B < x.block) :
    PartsEnd Q R w (.returned (.tuple #[.agg #[.bool false, .slice (some ⟨B, 0, none⟩) (blen Q) L], .agg #[.bool false, .slice c (blen R) rc]]))
      ((((wr.setCell ⟨w.heap.size + 1 + 1, 0, none⟩ (.bool false)).setCell ⟨w.heap.size + 1 + 1, 1, none⟩ (.slice (some ⟨B, 0, none⟩) (blen Q) L)).setCell ⟨w.heap.size + 1 + 1 + 1, 0, none⟩ (.bool false)).setCell ⟨w.heap.size + 1 + 1 + 1, 1, none⟩ (.slice c (blen R) rc)) := by
  have n1 : ∀ x : Addr, (some ⟨B, 0, none⟩ : Option Addr) = some x → x.block ≠ w.heap.size + 1 + 1 := by intro x e; cases e; show B ≠ _; omega
  have n2 : ∀ x : Addr, (some ⟨B, 0, none⟩ : Option Addr) = some x → x.block ≠ w.heap.size + 1 + 1 + 1 := by intro x e; cases e; show B ≠ _; omega
  have m1 : ∀ x : Addr, c = some x → x.block ≠ w.heap.size + 1 + 1 := fun x e => by have := h3 x e; omega
  have m2 : ∀ x : Addr, c = some x → x.block ≠ w.heap.size + 1 + 1 + 1 := fun x e => by have := h3 x e; omega
  refine ⟨some ⟨B, 0, none⟩, blen Q, L, c, blen R, rc, rfl, ⟨(decide_eq_false (by omega)).symm, rfl, hql, by unfold maxLen; omega, ?_⟩, ⟨(decide_eq_false (by omega)).symm, rfl, h1, h2, ?_⟩, ?_, ?_, ?_⟩
  · exact (((hq.far n1).far n1).far n2).far n2
  · exact (((hr.far m1).far m1).far m2).far m2
  · exact (((hb.setCell (p := ⟨w.heap.size + 1 + 1, 0, none⟩) (by show _ ≤ _ + _; omega) _).setCell (p := ⟨w.heap.size + 1 + 1, 1, none⟩) (by show _ ≤ _ + _; omega) _).setCell (p := ⟨w.heap.size + 1 + 1 + 1, 0, none⟩) (by show _ ≤ _ + _; omega) _).setCell (p := ⟨w.heap.size + 1 + 1 + 1, 1, none⟩) (by show _ ≤ _ + _; omega) _
  · intro x e; cases e; show _ ≤ B; omega
  · intro x e; have := h3 x e; omega

/-- The boxes of Parts: its two numbers, and the answers'. -/
structure PartBox (w : World) (B : Nat) (s t : Bool) (a a' : Option Addr) (l l' cap cap' : Nat) : Prop where
  c1 : w.cell? ⟨B, 1, none⟩ = some (.slice a l cap)
  d1 : w.cell? ⟨B + 1, 1, none⟩ = some (.slice a' l' cap')
  r0 : w.cell? ⟨B + 1 + 1, 0, none⟩ = some (.bool false)
  r1 : w.cell? ⟨B + 1 + 1, 1, none⟩ = some (.slice none 0 0)
  s0 : w.cell? ⟨B + 1 + 1 + 1, 0, none⟩ = some (.bool false)
  s1 : w.cell? ⟨B + 1 + 1 + 1, 1, none⟩ = some (.slice none 0 0)
  f0 : w.frozen? ⟨B + 1 + 1, 0, none⟩ = false
  f1 : w.frozen? ⟨B + 1 + 1, 1, none⟩ = false
  g0 : w.frozen? ⟨B + 1 + 1 + 1, 0, none⟩ = false
  g1 : w.frozen? ⟨B + 1 + 1 + 1, 1, none⟩ = false
theorem PartBox.grown {w w' : World} {B : Nat} {s t : Bool} {a a' : Option Addr} {l l' cap cap' : Nat} {row : Option Nat} (h : PartBox w B s t a a' l l' cap cap') (hg : w.grownBy w' row) (hr : ∀ x, row = some x → B + 1 + 1 + 1 < x) : PartBox w' B s t a a' l l' cap cap' :=
  ⟨grown_cell hg h.c1 (fun e => by have := hr _ e; simp at this; omega), grown_cell hg h.d1 (fun e => by have := hr _ e; simp at this; omega), grown_cell hg h.r0 (fun e => by have := hr _ e; simp at this; omega), grown_cell hg h.r1 (fun e => by have := hr _ e; simp at this; omega), grown_cell hg h.s0 (fun e => by have := hr _ e; simp at this), grown_cell hg h.s1 (fun e => by have := hr _ e; simp at this),
   grown_frozen hg h.r0 h.f0 (fun e => by have := hr _ e; simp at this; omega), grown_frozen hg h.r1 h.f1 (fun e => by have := hr _ e; simp at this; omega), grown_frozen hg h.s0 h.g0 (fun e => by have := hr _ e; simp at this), grown_frozen hg h.s1 h.g1 (fun e => by have := hr _ e; simp at this)⟩
theorem PartBox.after {w w' : World} {B : Nat} {s t : Bool} {a a' : Option Addr} {l l' cap cap' : Nat} (h : PartBox w B s t a a' l l' cap cap') (hb : Below w.heap.size w w') : PartBox w' B s t a a' l l' cap cap' := h.grown (below_row hb none) (fun x e => by cases e)

set_option maxHeartbeats 2000000 in
set_option maxRecDepth 100000 in
theorem parts_big (z1 z2 : Int) (s t : Bool) (a a' : Option Addr) (l l' cap cap' : Nat) (w : World) (h1 : BigAt w z1 s a l cap) (h2 : BigAt w z2 t a' l' cap') (b1 : blen z1.natAbs ≤ 5000) (b2 : blen z2.natAbs ≤ 5000) (hz : z2 ≠ 0) :
    Calls Try.prog 29 #[.agg #[.bool s, .slice a l cap], .agg #[.bool t, .slice a' l' cap']] w (PartsEnd (z1.natAbs / z2.natAbs) (z1.natAbs % z2.natAbs) w) := by
  obtain ⟨i0, hi, hz0, hz1, hz2⟩ := info_parts infoInt
  obtain ⟨hs, rfl, hc, hm, hr⟩ := h1
  obtain ⟨ht, rfl, hc', hm', hr'⟩ := h2
  obtain ⟨N, hN⟩ : ∃ N, z1.natAbs = N := ⟨_, rfl⟩
  obtain ⟨D, hD⟩ : ∃ N, z2.natAbs = N := ⟨_, rfl⟩
  have hD0 : 0 < D := by omega
  rw [hN] at hr hc b1 ⊢
  rw [hD] at hr' hc' b2 ⊢
  have HD0 := Lib.hid hD0
  clear hs ht hz hN hD hD0
  have hal : Below w.heap.size w ((((w.alloc (.cells #[.bool s, .slice a (blen N) cap] 29)).alloc (.cells #[.bool t, .slice a' (blen D) cap'] 29)).alloc (.cells #[.bool false, .slice none 0 0] 29)).alloc (.cells #[.bool false, .slice none 0 0] 29)) := ((((Below.refl _ _).alloc (Nat.le_refl _) _).alloc (by simp) _).alloc (by simp; omega) _).alloc (by simp; omega) _
  have hx : PartBox ((((w.alloc (.cells #[.bool s, .slice a (blen N) cap] 29)).alloc (.cells #[.bool t, .slice a' (blen D) cap'] 29)).alloc (.cells #[.bool false, .slice none 0 0] 29)).alloc (.cells #[.bool false, .slice none 0 0] 29)) w.heap.size s t a a' (blen N) (blen D) cap cap' :=
    ⟨by go_simp, by go_simp, by go_simp, by go_simp, by go_simp, by go_simp, by go_simp, by go_simp, by go_simp, by go_simp⟩
  have hmk := run_make (P := Try.prog) ((((w.alloc (.cells #[.bool s, .slice a (blen N) cap] 29)).alloc (.cells #[.bool t, .slice a' (blen D) cap'] 29)).alloc (.cells #[.bool false, .slice none 0 0] 29)).alloc (.cells #[.bool false, .slice none 0 0] 29)) 27 3 i0 (.int .i64 0) Try.underlying27 hi hz0 .i64 .i64 (blen N : Nat) (blen N : Nat) (by omega) (Int.le_refl _) (by rw [hz2]; omega) (by omega)
  rw [hz1, Nat.mul_one, Int.toNat_natCast, show (Value.int .i64 0).cells = #[.int .i64 0] from rfl, quoB_start (N / D)] at hmk
  obtain ⟨wa, hwa⟩ : ∃ wa, ((((w.alloc (.cells #[.bool s, .slice a (blen N) cap] 29)).alloc (.cells #[.bool t, .slice a' (blen D) cap'] 29)).alloc (.cells #[.bool false, .slice none 0 0] 29)).alloc (.cells #[.bool false, .slice none 0 0] 29)) = wa := ⟨_, rfl⟩
  have hsz : wa.heap.size = w.heap.size + 1 + 1 + 1 + 1 := by rw [← hwa]; simp
  rw [hwa] at hal hx hmk
  obtain ⟨wq, hwq⟩ : ∃ wq, wa.alloc (.cells (quoB (N / D) (blen N) (blen N)) 3) = wq := ⟨_, rfl⟩
  have kq : Hid (Blk wq wa.heap.size (quoB (N / D) (blen N) (blen N)) 3) := by show Blk _ _ _ _; rw [← hwq]; exact Blk.new _ _ _
  have hbq : Below wa.heap.size wa wq := by rw [← hwq]; exact (Below.refl _ _).alloc (Nat.le_refl _) _
  rw [hwq] at hmk
  have HX := Lib.hid (hx.after hbq)
  have HB := Lib.hid (hal.trans (hbq.mono hal.size))
  have HRK : Hid (∀ {w' : World}, Below w.heap.size w w' → RowAt w' a (blen N) (bitV N)) := fun hb => hr.after hb
  have HRD : Hid (∀ {w' : World}, Below w.heap.size w w' → RowAt w' a' (blen D) (bitV D)) := fun hb => hr'.after hb
  have hqz : Hid (wq.heap.size = wa.heap.size + 1) := by show _ = _; rw [← hwq]; simp
  obtain ⟨q0, q1, q2, q3, q4, q5, q6, q7, q8, q9⟩ := hx.after hbq
  obtain ⟨p0, _, _, _, _, _, _, _, _, _⟩ := hx
  clear hwq hal hr hr' hbq
  go_enter Try.func29, Try.ntmps29
  go_wp2_with fail
  obtain ⟨B, hB⟩ : ∃ B, w.heap.size + 1 + 1 + 1 + 1 = B := ⟨_, rfl⟩
  rw [hsz, hB] at kq hqz
  rw [hB]
  have HSZ := Lib.hid hB
  clear hB hmk hwa hsz q0 q1 q2 q3 q4 q5 q6 q7 q8 q9 p0
  go_loopw [7, 8] (fun r i wr => ∃ (k : Nat) (c : Option Addr) (rc : Nat), k ≤ blen N ∧ i = .int .i64 ((k : Int) - 1) ∧ r = .slice c (blen (N / 2 ^ k % D)) rc ∧ Hid (RowAt wr c (blen (N / 2 ^ k % D)) (bitV (N / 2 ^ k % D))) ∧ Hid (blen (N / 2 ^ k % D) ≤ rc ∧ rc ≤ maxLen ∧ ∀ x, c = some x → B < x.block) ∧ Hid (Blk wr B (quoB (N / D) k (blen N)) 3) ∧ Hid (PartBox wr w.heap.size s t a a' (blen N) (blen D) cap cap') ∧ Hid (Below w.heap.size w wr) ∧ Hid (B < wr.heap.size)) (fun _ i _ => (intOf i + 1).toNat)
  case atStart =>
    have e0 : N / 2 ^ blen N % D = 0 := by rw [Nat.div_eq_of_lt (blen_le.1 (Nat.le_refl _)), Nat.zero_mod]
    refine ⟨blen N, none, 0, Nat.le_refl _, rfl, by rw [e0]; rfl, ?_, ?_, kq, HX, HB, by show B < _; rw [hqz.out]; omega⟩
    · show RowAt _ _ _ _
      rw [e0]
      exact RowAt.nil _ _ _
    · show _ ∧ _
      rw [e0]
      exact ⟨Nat.le_refl _, by unfold maxLen; omega, fun x e => by cases e⟩
  case round =>
    obtain ⟨k, c, rc, hk, rfl, rfl, HR, HC, HQ, HPX, HBL, HLT⟩ := hrel
    clear kq HX HB hqz
    obtain ⟨p1, p2, _, _, _, _, _, _, _, _⟩ := id HPX.out
    by_cases h0 : 0 < k
    · have zr : B < wr.heap.size := HLT.out
      obtain ⟨xb, xo, rfl, hcell⟩ := (show RowAt wr a (blen N) (bitV N) from HRK.out HBL.out) (by omega)
      have hck := hcell (k - 1) (by omega)
      unfold bitV at hck
      have i0' : (0 : Int) ≤ (k : Int) - 1 := by omega
      have i1 : (k : Int) - 1 < ((blen N : Nat) : Int) := by omega
      have i2 : ((k : Int) - 1).toNat = k - 1 := by omega
      clear hcell
      obtain ⟨R, hR⟩ : ∃ R, N / 2 ^ k % D = R := ⟨_, rfl⟩
      rw [hR] at HR HC ⊢
      have HRa := Lib.hid (HR.out.after (w' := wr.alloc (.cells #[.int .i64 (bitAt N (k - 1))] 3)) ((Below.refl _ _).alloc (Nat.le_refl _) _))
      have hRl : blen R ≤ 5000 := by
        have := blen_mono (show R ≤ D by rw [← hR]; exact Nat.le_of_lt (Nat.mod_lt _ HD0.out))
        omega
      have HRD' := Lib.hid hR
      clear hR
      go_wp2_with (at_builtin; refine wpl_append_row rfl _ _ rfl wr.heap.size 1 [.int .i64 (bitAt N (k - 1))] rfl (World.ownsRow_lit wr #[.int .i64 (bitAt N (k - 1))] 1 (Nat.le_refl _) (by unfold maxLen; omega) rfl) c rc (blen R) (bitV R) (fun i => ⟨_, rfl⟩) rfl HRa.out (by simp) (by omega) ?_; intro v' w1 hown' hb1)
      obtain ⟨bt, hbt⟩ : ∃ bt, N / 2 ^ (k - 1) % 2 = bt := ⟨_, rfl⟩
      have hbt2 : bt < 2 := by omega
      have hbi : bitAt N (k - 1) = (bt : Int) := by unfold bitAt; rw [hbt]
      have hst := part_step N D (k - 1) HD0.out
      rw [Nat.sub_add_cancel h0, HRD'.out, hbt] at hst
      have HST := Lib.hid hst
      have hmb := more_bits R bt hbt2
      have hml := more_len R bt hbt2
      rw [hbi] at hown' hb1
      have hown2 : w1.ownsRow wr.heap.size 3 1 v' (1 + blen R) (someBits (2 * R + bt) (blen R + 1)) := by rw [← hmb]; exact hown'
      obtain ⟨R2, hR2⟩ : ∃ R2, 2 * R + bt = R2 := ⟨_, rfl⟩
      rw [hR2] at hown2 hml HST
      obtain ⟨a1, cap1, rfl, g0, g1, g2, g3, g4⟩ := owned_parts hown2
      have G3 := Lib.hid g3
      have G0 := Lib.hid g0
      have g5 : RowAt w1 a1 (1 + blen R) (bitV R2) := by
        rw [Nat.mul_one] at g4
        exact g4.congr fun i hi => someBits_get _ _ i (by omega)
      have hbw : Below w.heap.size w w1 := (HBL.out.alloc HBL.out.size _).trans (hb1.mono HBL.out.size)
      have hb1' : Below wr.heap.size wr w1 := ((Below.refl _ _).alloc (Nat.le_refl _) _).trans hb1
      have HB1 := Lib.hid hbw
      have HPX1 := Lib.hid (HPX.out.after hb1')
      have HQ1 := Lib.hid (HQ.out.after hb1')
      have zr1 : wr.heap.size ≤ w1.heap.size := hb1'.size
      have HG5 := Lib.hid g5
      have hrl2 : blen R2 ≤ 5001 := by omega
      have HTR := Lib.hid (trim_bits a1 (1 + blen R) cap1 R2 w1 g5 (by omega) (by omega) g1 g2 g0)
      have p3 := HPX1.out.d1
      clear hown' hown2 g0 g3 g4 g5 hst hmb hbw hb1 hb1' hbt hbi hR2 HRD' HRa HR HC HPX HQ HBL hck p1 p2
      go_wp2_with fail
      refine HTR.out.mono ?_
      rintro e wt ⟨rfl, rfl⟩
      have HG6 := Lib.hid (HG5.out.take (show blen R2 ≤ 1 + blen R by omega))
      have HOR := Lib.hid (order_bits a1 a' cap1 cap' R2 D w1 HG6.out (HRD.out HB1.out) (by omega) (by omega))
      go_wp2_with fail
      refine HOR.out.mono ?_
      rintro e w2 ⟨rfl, hb2⟩
      have HB2 := Lib.hid (HB1.out.trans (hb2.mono HB1.out.size))
      have HPX2 := Lib.hid (HPX1.out.after hb2)
      have HQ2 := Lib.hid (HQ1.out.after hb2)
      have HG7 := Lib.hid (HG6.out.after hb2)
      have zr2 : w1.heap.size ≤ w2.heap.size := hb2.size
      have p4 := HPX2.out.d1
      clear hb2 p3 HPX1 HQ1 HOR HTR HB1
      by_cases hlt : R2 < D
      · have ho : ordN R2 D = -1 := by unfold ordN; rw [if_pos hlt]
        have HS1 := Lib.hid (HST.out.1 hlt)
        rw [ho]
        clear ho hlt
        go_wp2_with fail
        go_roundw
        case rel =>
          obtain ⟨s1, s2⟩ := HS1.out
          refine ⟨k - 1, a1, cap1, by omega, by congr 1; omega, by rw [s1], ?_, ?_, ?_, HPX2, HB2, ?_⟩
          · rw [s1]; exact HG7
          · rw [s1]; exact ⟨by omega, g2, fun x e => by have := G3.out x e; omega⟩
          · have := HQ2.out
            rw [show k = k - 1 + 1 from by omega, quoB_zero _ _ _ (by unfold bitAt; rw [s2]; rfl)] at this
            exact this
          · show _ < _; omega
        case measure => simp [intOf]; omega
      · have ho : 0 ≤ ordN R2 D := by unfold ordN; rw [if_neg hlt]; split <;> omega
        have HS1 := Lib.hid (HST.out.2 (by omega))
        have HMI := Lib.hid (minus_bits a1 a' cap1 cap' R2 D w2 HG7.out (HRD.out HB2.out) (by omega) (by omega))
        obtain ⟨od, hod⟩ : ∃ od, ordN R2 D = od := ⟨_, rfl⟩
        rw [hod] at ho ⊢
        clear hod hlt
        go_wp2_with fail
        refine HMI.out.mono ?_
        rintro e w3 ⟨c3, cap3, rfl, k1, k2, k3, k4, k5⟩
        have K3 := Lib.hid k3
        have K5 := Lib.hid k5
        have HB3 := Lib.hid (HB2.out.trans (k4.mono HB2.out.size))
        have HPX3 := Lib.hid (HPX2.out.after k4)
        have HQ3 := Lib.hid (HQ2.out.after k4)
        have zr3 : w2.heap.size ≤ w3.heap.size := k4.size
        have f0 := HQ3.out.free (k - 1)
        have f1 : w3.cell? ⟨B, k - 1, none⟩ = some (.int .i64 0) := HQ3.out.cell (k - 1) (by rw [quoB_get _ _ _ _ (by omega), if_neg (by omega)])
        clear k3 k4 k5 p4 HPX2 HQ2 HMI HB2 HG7 HG6 HG5
        go_wp2_with fail
        go_roundw
        case rel =>
          obtain ⟨s1, s2⟩ := HS1.out
          have hg : w3.grownBy (w3.setCell ⟨B, k - 1, none⟩ (.int .i64 1)) (some B) := grown_setCell _ _ _ _
          refine ⟨k - 1, c3, cap3, by omega, by congr 1; omega, by rw [s1], ?_, ?_, ?_, ?_, ?_, ?_⟩
          · rw [s1]
            exact K3.out.grown hg (fun x e => by have := K5.out x e; simp; omega)
          · rw [s1]; exact ⟨k1, k2, fun x e => by have := K5.out x e; omega⟩
          · have := HQ3.out.set (k - 1) (.int .i64 1)
            have e1 := quoB_one (N / D) (k - 1) (blen N) (by unfold bitAt; rw [s2]; rfl)
            rw [Nat.sub_add_cancel h0] at e1
            rw [e1] at this
            exact this
          · exact HPX3.out.grown hg (fun x e => by cases e; have := HSZ.out; omega)
          · exact HB3.out.grown hg HB3.out.size (fun r e => by cases e; have := HSZ.out; omega)
          · show _ < _; simp [World.setCell]; omega
        case measure => simp [intOf]; omega
    · obtain rfl : k = 0 := by omega
      have hqr : RowAt wr (some ⟨B, 0, none⟩) (blen N) (bitV (N / D)) := fun hl => ⟨B, 0, rfl, fun i hi => by
        rw [Nat.zero_add]
        exact HQ.out.cell i (by rw [quoB_get _ _ _ _ hi, if_pos (Nat.zero_le _)])⟩
      have hql : blen (N / D) ≤ blen N := blen_mono (Nat.div_le_self _ _)
      have HQR := Lib.hid hqr
      have HTR := Lib.hid (trim_bits (some ⟨B, 0, none⟩) (blen N) (blen N) (N / D) wr hqr hql (by omega) (Nat.le_refl _) (by unfold maxLen; omega) (by simp))
      rw [show N / 2 ^ 0 % D = N % D from by simp] at HR HC ⊢
      obtain ⟨Q, hQ⟩ : ∃ Q, N / D = Q := ⟨_, rfl⟩
      obtain ⟨R, hR⟩ : ∃ R, N % D = R := ⟨_, rfl⟩
      rw [hQ] at HQR HTR HQ hql ⊢
      rw [hR] at HR HC ⊢
      obtain ⟨_, _, p3, p4, p5, p6, p7, p8, p9, p10⟩ := id HPX.out
      have HQe := Lib.hid hQ
      have HRe := Lib.hid hR
      clear hqr hQ hR p1 p2 HRK HRD
      go_wp2_with fail
      refine HTR.out.mono ?_
      rintro e wt ⟨rfl, rfl⟩
      go_wp2_with fail
      refine bodyPost_ret (v := .tuple #[.agg #[.bool false, .slice (some ⟨B, 0, none⟩) (blen Q) (blen N)], .agg #[.bool false, .slice c (blen R) rc]]) ?_ rfl ?_
      · simp [results, Try.results29, go_sem, p3, p4, p5, p6]
      · rw [HQe.out, HRe.out]
        exact parts_end HSZ.out HBL.out (HQR.out.take hql) hql (by omega) HR.out HC.out.1 HC.out.2.1 HC.out.2.2

end Go.Proofs.Ytncodoaphfeefaa
