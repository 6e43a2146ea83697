/- The document's ratios (package chattelref02): common. -/
import Derived.Test.YtfimgdjpnlcckaaRefF
import Derived.Deep.LoopGhost
namespace Go.Proofs.Ytfimgdjpnlcckaa
open Go.RowKit
set_option linter.unusedVariables false
set_option linter.unusedSimpArgs false

/-- A row that lies in none of the boxes B, B + 1, B + 2. -/
def Away (B len : Nat) (a : Option Addr) : Prop := 0 < len → ∀ x, a = some x → x.block < B ∨ B + 2 < x.block
theorem RowAt.away {w : World} {a : Option Addr} {len : Nat} {f : Nat → Value} {B C j : Nat} {v : Value} (h : RowAt w a len f) (hn : Away B len a) (hC : B ≤ C ∧ C ≤ B + 2) : RowAt (w.setCell ⟨C, j, none⟩ v) a len f := fun hl => by
  refine (h.far (B := C) (fun x e => ?_)) hl
  have := hn hl x e
  omega
theorem Away.old {w : World} {a : Option Addr} {len : Nat} {f : Nat → Value} (h : RowAt w a len f) : Away w.heap.size len a := fun hl x e => by
  obtain ⟨b, o, e1, h1⟩ := h.lt hl
  rw [e] at e1
  cases e1
  exact Or.inl h1

/-- A number not below nought, that need not lie anew. -/
def NatRet (n : Nat) (w : World) (e : Ending) (w' : World) : Prop :=
  ∃ a l cap, e = .returned (.agg #[.bool false, .slice a l cap]) ∧ BigAt w' n false a l cap ∧ Below w.heap.size w w'

/-- The boxes of common: its two numbers, and the answer's. -/
structure ComBox (w : World) (B : Nat) (a a' : Option Addr) (l l' cap cap' : Nat) : Prop where
  c0 : w.cell? ⟨B, 0, none⟩ = some (.bool false)
  c1 : w.cell? ⟨B, 1, none⟩ = some (.slice a l cap)
  d0 : w.cell? ⟨B + 1, 0, none⟩ = some (.bool false)
  d1 : w.cell? ⟨B + 1, 1, none⟩ = some (.slice a' l' cap')
  r0 : w.cell? ⟨B + 1 + 1, 0, none⟩ = some (.bool false)
  r1 : w.cell? ⟨B + 1 + 1, 1, none⟩ = some (.slice none 0 0)
  f0 : w.frozen? ⟨B, 0, none⟩ = false
  f1 : w.frozen? ⟨B, 1, none⟩ = false
  g0 : w.frozen? ⟨B + 1, 0, none⟩ = false
  g1 : w.frozen? ⟨B + 1, 1, none⟩ = false
  h0 : w.frozen? ⟨B + 1 + 1, 0, none⟩ = false
  h1 : w.frozen? ⟨B + 1 + 1, 1, none⟩ = false
theorem ComBox.after {w w' : World} {B : Nat} {a a' : Option Addr} {l l' cap cap' : Nat} (h : ComBox w B a a' l l' cap cap') (hb : Below w.heap.size w w') : ComBox w' B a a' l l' cap cap' :=
  ⟨below_cell hb h.c0, below_cell hb h.c1, below_cell hb h.d0, below_cell hb h.d1, below_cell hb h.r0, below_cell hb h.r1, below_frozen hb h.c0 h.f0, below_frozen hb h.c1 h.f1, below_frozen hb h.d0 h.g0, below_frozen hb h.d1 h.g1, below_frozen hb h.r0 h.h0, below_frozen hb h.r1 h.h1⟩
theorem cell_far {w : World} {p : Addr} {v u : Value} {C j : Nat} (h : w.cell? p = some v) (hn : p.block ≠ C) : (w.setCell ⟨C, j, none⟩ u).cell? p = some v := set_far h hn
theorem ComBox.turn {w : World} {B : Nat} {a a' c : Option Addr} {l l' m cap cap' cap2 : Nat} (h : ComBox w B a a' l l' cap cap') :
    ComBox ((((w.setCell ⟨B, 0, none⟩ (.bool false)).setCell ⟨B, 1, none⟩ (.slice a' l' cap')).setCell ⟨B + 1, 0, none⟩ (.bool false)).setCell ⟨B + 1, 1, none⟩ (.slice c m cap2)) B a' c l' m cap' cap2 :=
  ⟨cell_far (cell_far ((World.cell?_setCell_other _ _ _ _ (by simp)).trans (World.cell?_setCell_same _ _ _ h.c0)) (by simp)) (by simp),
   cell_far (cell_far (World.cell?_setCell_same _ _ _ ((World.cell?_setCell_other _ _ _ _ (by simp)).trans h.c1)) (by simp)) (by simp),
   (World.cell?_setCell_other _ _ _ _ (by simp)).trans (World.cell?_setCell_same _ _ _ (cell_far (cell_far h.d0 (by simp)) (by simp))),
   World.cell?_setCell_same _ _ _ ((World.cell?_setCell_other _ _ _ _ (by simp)).trans (cell_far (cell_far h.d1 (by simp)) (by simp))),
   cell_far (cell_far (cell_far (cell_far h.r0 (by simp; omega)) (by simp; omega)) (by simp)) (by simp), cell_far (cell_far (cell_far (cell_far h.r1 (by simp; omega)) (by simp; omega)) (by simp)) (by simp),
   by simp only [World.frozen?_setCell]; exact h.f0, by simp only [World.frozen?_setCell]; exact h.f1, by simp only [World.frozen?_setCell]; exact h.g0, by simp only [World.frozen?_setCell]; exact h.g1, by simp only [World.frozen?_setCell]; exact h.h0, by simp only [World.frozen?_setCell]; exact h.h1⟩

set_option maxHeartbeats 2000000 in
set_option maxRecDepth 100000 in
theorem refgcd_ok (z1 z2 : Int) (s t : Bool) (a a' : Option Addr) (l l' cap cap' : Nat) (w : World) (h1 : BigAt w z1 s a l cap) (h2 : BigAt w z2 t a' l' cap') (b1 : blen z1.natAbs ≤ 5000) (b2 : blen z2.natAbs ≤ 5000) :
    Calls Try.prog 51 #[.agg #[.bool s, .slice a l cap], .agg #[.bool t, .slice a' l' cap']] w (NatRet (Nat.gcd z1.natAbs z2.natAbs) w) := by
  obtain ⟨hs, rfl, hc, hm, hr⟩ := h1
  obtain ⟨ht, rfl, hc', hm', hr'⟩ := h2
  obtain ⟨N, hN⟩ : ∃ N, z1.natAbs = N := ⟨_, rfl⟩
  obtain ⟨D, hD⟩ : ∃ N, z2.natAbs = N := ⟨_, rfl⟩
  rw [hN] at hr hc b1 ⊢
  rw [hD] at hr' hc' b2 ⊢
  clear hs ht hN hD
  obtain ⟨G, hG⟩ : ∃ G, Nat.gcd N D = G := ⟨_, rfl⟩
  rw [hG]
  have HG := Lib.hid hG
  have HC := Lib.hid hc
  have HC' := Lib.hid hc'
  have HM := Lib.hid hm
  have HM' := Lib.hid hm'
  obtain ⟨wa, hwa⟩ : ∃ wa, (((w.alloc (.cells #[.bool s, .slice a (blen N) cap] 96)).alloc (.cells #[.bool t, .slice a' (blen D) cap'] 96)).alloc (.cells #[.bool false, .slice none 0 0] 96)) = wa := ⟨_, rfl⟩
  have k0 : Blk wa w.heap.size #[.bool s, .slice a (blen N) cap] 96 := by rw [← hwa]; exact ((Blk.new _ _ _).alloc _).alloc _
  have k1 : Blk wa (w.heap.size + 1) #[.bool t, .slice a' (blen D) cap'] 96 := by rw [← hwa]; have := (Blk.new (w.alloc (.cells #[.bool s, .slice a (blen N) cap] 96)) #[.bool t, .slice a' (blen D) cap'] 96).alloc (.cells #[.bool false, .slice none 0 0] 96); simpa using this
  have k2 : Blk wa (w.heap.size + 1 + 1) #[.bool false, .slice none 0 0] 96 := by rw [← hwa]; have := Blk.new ((w.alloc (.cells #[.bool s, .slice a (blen N) cap] 96)).alloc (.cells #[.bool t, .slice a' (blen D) cap'] 96)) #[.bool false, .slice none 0 0] 96; simpa using this
  have bw : Below w.heap.size w wa := by rw [← hwa]; exact (((Below.refl _ _).alloc (Nat.le_refl _) _).alloc (by simp) _).alloc (by simp; omega) _
  have hsz : wa.heap.size = w.heap.size + 1 + 1 + 1 := by rw [← hwa]; simp
  obtain ⟨wb, hwb⟩ : ∃ wb, (wa.setCell ⟨w.heap.size, 0, none⟩ (.bool false)).setCell ⟨w.heap.size + 1, 0, none⟩ (.bool false) = wb := ⟨_, rfl⟩
  have m0 : Blk wb w.heap.size #[.bool false, .slice a (blen N) cap] 96 := by rw [← hwb]; exact (k0.set 0 _).far 0 _ (by simp)
  have m1 : Blk wb (w.heap.size + 1) #[.bool false, .slice a' (blen D) cap'] 96 := by rw [← hwb]; exact (k1.far 0 _ (by simp)).set 0 _
  have m2 : Blk wb (w.heap.size + 1 + 1) #[.bool false, .slice none 0 0] 96 := by rw [← hwb]; exact (k2.far 0 _ (by simp; omega)).far 0 _ (by simp)
  have HX : Hid (ComBox wb w.heap.size a a' (blen N) (blen D) cap cap') := ⟨m0.cell 0 rfl, m0.cell 1 rfl, m1.cell 0 rfl, m1.cell 1 rfl, m2.cell 0 rfl, m2.cell 1 rfl, m0.free 0, m0.free 1, m1.free 0, m1.free 1, m2.free 0, m2.free 1⟩
  have HB : Hid (Below w.heap.size w wb) := by show Below _ _ _; rw [← hwb]; exact (bw.setCell (p := ⟨w.heap.size, 0, none⟩) (Nat.le_refl _) _).setCell (p := ⟨w.heap.size + 1, 0, none⟩) (by simp) _
  have HSZ : Hid (w.heap.size + 2 < wb.heap.size) := by show _ < _; rw [← hwb]; simp [World.setCell]; omega
  have HR := Lib.hid (hr.after HB.out)
  have HR' := Lib.hid (hr'.after HB.out)
  have HAW := Lib.hid (Away.old hr)
  have HAW' := Lib.hid (Away.old hr')
  have p0 := k0.free 0
  have p1 : wa.cell? ⟨w.heap.size, 0, none⟩ = some (.bool s) := k0.cell 0 rfl
  have p2 := k1.free 0
  have p3 : wa.cell? ⟨w.heap.size + 1, 0, none⟩ = some (.bool t) := k1.cell 0 rfl
  clear k0 k1 k2 m0 m1 m2 bw hsz hr hr' hc hc' hm hm' hG
  go_enter Try.func51, Try.ntmps51
  go_wp2_with fail
  clear p0 p1 p2 p3 hwa hwb
  go_loopg [5] D (fun g v wr => ∃ (p : Nat) (a a' : Option Addr) (cap cap' : Nat), Hid (Nat.gcd p g = G ∧ blen p ≤ 5000 ∧ blen g ≤ 5000 ∧ blen p ≤ cap ∧ blen g ≤ cap' ∧ cap ≤ maxLen ∧ cap' ≤ maxLen) ∧ Hid (RowAt wr a (blen p) (bitV p)) ∧ Hid (RowAt wr a' (blen g) (bitV g)) ∧ Hid (Away w.heap.size (blen p) a) ∧ Hid (Away w.heap.size (blen g) a') ∧ Hid (ComBox wr w.heap.size a a' (blen p) (blen g) cap cap') ∧ Hid (Below w.heap.size w wr) ∧ Hid (w.heap.size + 2 < wr.heap.size))
  case atStart => exact ⟨N, a, a', cap, cap', ⟨HG.out, b1, b2, HC.out, HC'.out, HM.out, HM'.out⟩, HR, HR', HAW, HAW', HX, HB, HSZ⟩
  case round =>
    clear HX HB HR HR' HAW HAW' HSZ
    obtain ⟨p, c, c', rc, rc', HP, HR, HR', HAW, HAW', HX, HB, HSZ⟩ := hrel
    obtain ⟨q0, q1, q2, q3, q4, q5, q6, q7, q8, q9, q10, q11⟩ := id HX.out
    by_cases hg : gk = 0
    · subst hg
      have hz : ((blen 0 : Nat) : Int) = 0 := rfl
      rw [show blen 0 = 0 from rfl] at q3
      go_wp2_with fail
      refine bodyPost_ret (v := .agg #[.bool false, .slice c (blen p) rc]) ?_ rfl ?_
      · simp [results, Try.results51, go_sem, q4, q5]
      · obtain ⟨g1, g2, g3, g4, g5, g6, g7⟩ := HP.out
        rw [Nat.gcd_zero_right] at g1
        subst g1
        refine ⟨c, blen p, rc, rfl, ⟨(decide_eq_false (by omega)).symm, rfl, g4, g6, ?_⟩, ?_⟩
        · exact (HR.out.away HAW.out (by omega)).away HAW.out (by omega)
        · exact (HB.out.setCell (p := ⟨w.heap.size + 1 + 1, 0, none⟩) (by show _ ≤ _ + _; omega) _).setCell (p := ⟨w.heap.size + 1 + 1, 1, none⟩) (by show _ ≤ _ + _; omega) _
    · have hbg : 0 < blen gk := by have := @blen_eq_zero gk; omega
      have hcall := Lib.hid (parts_big (p : Int) (gk : Int) false false c c' (blen p) (blen gk) rc rc' wr ⟨(decide_eq_false (by omega)).symm, rfl, HP.out.2.2.2.1, HP.out.2.2.2.2.2.1, HR.out⟩ ⟨(decide_eq_false (by omega)).symm, rfl, HP.out.2.2.2.2.1, HP.out.2.2.2.2.2.2, HR'.out⟩ HP.out.2.1 HP.out.2.2.1 (by omega))
      have HGZ := Lib.hid hg
      clear hg
      go_wp2_with fail
      refine hcall.out.mono ?_
      clear q0 q1 q2 q3 q4 q5 q6 q7 q8 q9 q10 q11
      rintro e w1 ⟨a1, l1, cap1, a2, l2, cap2, rfl, hq, hr, hb1, hn1, hn2⟩
      have HQ := Lib.hid hq
      have HRR := Lib.hid hr
      have HB1 := Lib.hid hb1
      have HN2 := Lib.hid hn2
      have HX1 := Lib.hid (HX.out.after hb1)
      have zr := hb1.size
      have zw : w.heap.size + 2 < wr.heap.size := HSZ.out
      obtain ⟨X, hX⟩ : ∃ X, w1.heap.size = X := ⟨_, rfl⟩
      obtain ⟨wc, hwc⟩ : ∃ wc, (w1.alloc (.cells #[.bool false, .slice none 0 0] 96)).alloc (.cells #[.bool false, .slice none 0 0] 96) = wc := ⟨_, rfl⟩
      have k0 : Blk wc X #[.bool false, .slice none 0 0] 96 := by rw [← hwc, ← hX]; exact (Blk.new _ _ _).alloc _
      have k1 : Blk wc (X + 1) #[.bool false, .slice none 0 0] 96 := by rw [← hwc, ← hX]; have := Blk.new (w1.alloc (.cells #[.bool false, .slice none 0 0] 96)) #[.bool false, .slice none 0 0] 96; simpa using this
      have bc : Below w1.heap.size w1 wc := by rw [← hwc]; exact ((Below.refl _ _).alloc (Nat.le_refl _) _).alloc (by simp) _
      obtain ⟨wd, hwd⟩ : ∃ wd, (((wc.setCell ⟨X, 0, none⟩ (.bool false)).setCell ⟨X, 1, none⟩ (.slice a1 l1 cap1)).setCell ⟨X + 1, 0, none⟩ (.bool false)).setCell ⟨X + 1, 1, none⟩ (.slice a2 l2 cap2) = wd := ⟨_, rfl⟩
      have k2 : Blk wd (X + 1) #[.bool false, .slice a2 l2 cap2] 96 := by rw [← hwd]; exact (((k1.far 0 _ (by simp)).far 1 _ (by simp)).set 0 _).set 1 _
      have bd : Below w1.heap.size w1 wd := by rw [← hwd, hX]; rw [hX] at bc; exact (((bc.setCell (p := ⟨X, 0, none⟩) (Nat.le_refl _) _).setCell (p := ⟨X, 1, none⟩) (Nat.le_refl _) _).setCell (p := ⟨X + 1, 0, none⟩) (by simp) _).setCell (p := ⟨X + 1, 1, none⟩) (by simp) _
      have HX2 := Lib.hid (HX1.out.after bd)
      have HBD := Lib.hid bd
      obtain ⟨q0, q1, q2, q3, q4, q5, q6, q7, q8, q9, q10, q11⟩ := id HX2.out
      have y0 := k0.free 0
      have y1 := k0.free 1
      have y2 := k1.free 0
      have y3 := k1.free 1
      have y4 : wc.cell? ⟨X, 0, none⟩ = some (.bool false) := k0.cell 0 rfl
      have y5 : wc.cell? ⟨X, 1, none⟩ = some (.slice none 0 0) := k0.cell 1 rfl
      have y6 : wc.cell? ⟨X + 1, 0, none⟩ = some (.bool false) := k1.cell 0 rfl
      have y7 : wc.cell? ⟨X + 1, 1, none⟩ = some (.slice none 0 0) := k1.cell 1 rfl
      have z0 : wd.cell? ⟨X + 1, 0, none⟩ = some (.bool false) := k2.cell 0 rfl
      have z1 : wd.cell? ⟨X + 1, 1, none⟩ = some (.slice a2 l2 cap2) := k2.cell 1 rfl
      have zx : wr.heap.size ≤ X := by omega
      clear hq hr hb1 hn1 hn2 hcall k0 k1 k2 bc bd zr
      go_wp2_with fail
      go_roundg (p % gk)
      case measure => exact Nat.mod_lt _ (by have := HGZ.out; omega)
      case rel =>
        obtain ⟨g1, g2, g3, g4, g5, g6, g7⟩ := HP.out
        have hlt : p % gk < gk := Nat.mod_lt _ (by have := HGZ.out; omega)
        obtain ⟨_, r2, r3, r4, r5⟩ := HRR.out
        have r2' : l2 = blen (p % gk) := r2
        have r5' : RowAt w1 a2 l2 (bitV (p % gk)) := r5
        subst r2'
        have w0 : Away w.heap.size (blen (p % gk)) a2 := fun _ x e => by have := HN2.out x e; omega
        have hbl : blen (p % gk) ≤ blen gk := blen_mono (Nat.le_of_lt hlt)
        refine ⟨gk, c', a2, rc', cap2, ⟨by rw [Nat.gcd_comm, ← Nat.gcd_rec gk p, Nat.gcd_comm]; exact g1, g3, by omega, g5, r3, g7, r4⟩, ?_, ?_, HAW', w0, HX2.out.turn, ?_, ?_⟩
        · exact (((((HR'.out.after HB1.out).after HBD.out).away HAW'.out (by omega)).away HAW'.out (by omega)).away HAW'.out (by omega)).away HAW'.out (by omega)
        · exact ((((r5'.after HBD.out).away w0 (by omega)).away w0 (by omega)).away w0 (by omega)).away w0 (by omega)
        · have hb3 := (HB.out.trans (HB1.out.mono HB.out.size)).trans (HBD.out.mono (Nat.le_trans HB.out.size HB1.out.size))
          exact (((hb3.setCell (p := ⟨w.heap.size, 0, none⟩) (Nat.le_refl _) _).setCell (p := ⟨w.heap.size, 1, none⟩) (Nat.le_refl _) _).setCell (p := ⟨w.heap.size + 1, 0, none⟩) (by simp) _).setCell (p := ⟨w.heap.size + 1, 1, none⟩) (by simp) _
        · show _ < _
          have := HBD.out.size
          simp [World.setCell]
          omega

end Go.Proofs.Ytfimgdjpnlcckaa
