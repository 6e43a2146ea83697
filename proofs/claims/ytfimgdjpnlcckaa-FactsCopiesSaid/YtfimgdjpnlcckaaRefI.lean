/- The document's ratios (package chattelref02): Ratio. -/
import Derived.Test.YtfimgdjpnlcckaaRefH
import Derived.Test.YtfimgdjpnlcckaaRefD
namespace Go.Proofs.Ytfimgdjpnlcckaa
open Go.RowKit
set_option linter.unusedVariables false
set_option linter.unusedSimpArgs false

/-- A ratio in lowest terms, if it fits. -/
def ratioV (x y : Int) : (Int × Int) × Int :=
  if fitsI ((x.natAbs / Nat.gcd x.natAbs y.natAbs : Nat) : Int) = true ∧ fitsI ((y.natAbs / Nat.gcd x.natAbs y.natAbs : Nat) : Int) = true then
    ((if decide (x < 0) = decide (y < 0) then ((x.natAbs / Nat.gcd x.natAbs y.natAbs : Nat) : Int) else -((x.natAbs / Nat.gcd x.natAbs y.natAbs : Nat) : Int), ((y.natAbs / Nat.gcd x.natAbs y.natAbs : Nat) : Int)), 0)
  else ((0, 0), 11)
def RatioEnd (x y : Int) (w : World) (e : Ending) (w' : World) : Prop :=
  e = .returned (.tuple #[.agg #[.int .i64 (ratioV x y).1.1, .int .i64 (ratioV x y).1.2], .int .i64 (ratioV x y).2]) ∧ Below w.heap.size w w'


set_option maxHeartbeats 2000000 in
set_option maxRecDepth 100000 in
theorem refratio_ok (x y : Int) (hy : y ≠ 0) (s t : Bool) (a b : Option Addr) (l m cap cap' : Nat) (w : World) (h1 : BigAt w x s a l cap) (h2 : BigAt w y t b m cap') (b1 : blen x.natAbs ≤ 5000) (b2 : blen y.natAbs ≤ 5000) :
    Calls Try.prog 38 #[.agg #[.bool s, .slice a l cap, .bool t, .slice b m cap']] w (RatioEnd x y w) := by
  have HEND : Hid (RatioEnd x y w = fun e w' => e = .returned (.tuple #[.agg #[.int .i64 (ratioV x y).1.1, .int .i64 (ratioV x y).1.2], .int .i64 (ratioV x y).2]) ∧ Below w.heap.size w w') := rfl
  have HS := Lib.hid h1.hs
  have HT := Lib.hid h2.hs
  obtain ⟨G, hG⟩ : ∃ G, Nat.gcd x.natAbs y.natAbs = G := ⟨_, rfl⟩
  have hG0 : 0 < G := by rw [← hG]; exact Nat.gcd_pos_of_pos_right _ (by omega)
  have hGb : blen G ≤ 5000 := by
    have := blen_mono (show G ≤ y.natAbs by rw [← hG]; exact Nat.gcd_le_right _ (by omega))
    omega
  have HV : Hid (ratioV x y = if fitsI ((x.natAbs / G : Nat) : Int) = true ∧ fitsI ((y.natAbs / G : Nat) : Int) = true then
    ((if decide (x < 0) = decide (y < 0) then ((x.natAbs / G : Nat) : Int) else -((x.natAbs / G : Nat) : Int), ((y.natAbs / G : Nat) : Int)), 0)
    else ((0, 0), 11)) := by show _ = _; rw [← hG]; rfl
  obtain ⟨V, hV⟩ : ∃ V, ratioV x y = V := ⟨_, rfl⟩
  rw [hV] at HEND HV
  obtain ⟨wa, hwa⟩ : ∃ wa, (w.alloc (.cells #[.bool s, .slice a l cap, .bool t, .slice b m cap'] 98)).alloc (.cells #[.int .i64 0, .int .i64 0] 29) = wa := ⟨_, rfl⟩
  have k0 : Blk wa w.heap.size #[.bool s, .slice a l cap, .bool t, .slice b m cap'] 98 := by rw [← hwa]; exact (Blk.new _ _ _).alloc _
  have k1 : Blk wa (w.heap.size + 1) #[.int .i64 0, .int .i64 0] 29 := by rw [← hwa]; have := Blk.new (w.alloc (.cells #[.bool s, .slice a l cap, .bool t, .slice b m cap'] 98)) #[.int .i64 0, .int .i64 0] 29; simpa using this
  have ba : Hid (Below w.heap.size w wa) := by show Below _ _ _; rw [← hwa]; exact ((Below.refl _ _).alloc (Nat.le_refl _) _).alloc (by simp) _
  have K0 := Lib.hid k0
  have K1 := Lib.hid k1
  have H1 := Lib.hid (h1.after ba.out)
  have H2 := Lib.hid (h2.after ba.out)
  have HY := Lib.hid hy
  have HGC := Lib.hid (refgcd_ok x y s t a b l m cap cap' wa H1.out H2.out b1 b2)
  rw [hG] at HGC
  have s0 : wa.cell? ⟨w.heap.size, 0, none⟩ = some (.bool s) := k0.cell 0 rfl
  have s1 : wa.cell? ⟨w.heap.size, 1, none⟩ = some (.slice a l cap) := k0.cell 1 rfl
  have s2 : wa.cell? ⟨w.heap.size, 2, none⟩ = some (.bool t) := k0.cell 2 rfl
  have s3 : wa.cell? ⟨w.heap.size, 3, none⟩ = some (.slice b m cap') := k0.cell 3 rfl
  clear k0 k1 h1 h2 hy hG hV
  go_enter Try.func38, Try.ntmps38
  go_wp2_with fail
  with_reducible refine HGC.out.mono ?_
  rintro e w1 ⟨ga, gl, gcap, rfl, hgb, hb1⟩
  have B1 := Lib.hid (ba.out.trans (hb1.mono ba.out.size))
  clear s0 s1 s2 s3 hwa HGC
  obtain ⟨X, hX⟩ : ∃ X, w1.heap.size = X := ⟨_, rfl⟩
  obtain ⟨w2c, hw2c⟩ : ∃ wc, w1.alloc (.cells #[.bool false, .slice none 0 0] 96) = wc := ⟨_, rfl⟩
  have k0 : Blk w2c X #[.bool false, .slice none 0 0] 96 := by rw [← hw2c, ← hX]; exact Blk.new _ _ _
  have bc : Below w1.heap.size w1 w2c := by rw [← hw2c]; exact (Below.refl _ _).alloc (Nat.le_refl _) _
  obtain ⟨w2, hw2⟩ : ∃ wd, (w2c.setCell ⟨X, 0, none⟩ (.bool false)).setCell ⟨X, 1, none⟩ (.slice ga gl gcap) = wd := ⟨_, rfl⟩
  have KX : Hid (Blk w2 X #[.bool false, .slice ga gl gcap] 96) := by show Blk _ _ _ _; rw [← hw2]; exact (k0.set 0 _).set 1 _
  have Bw2 : Hid (Below w1.heap.size w1 w2) := by show Below _ _ _; rw [← hw2, hX]; rw [hX] at bc; exact (bc.setCell (p := ⟨X, 0, none⟩) (Nat.le_refl _) _).setCell (p := ⟨X, 1, none⟩) (Nat.le_refl _) _
  have y0 := k0.free 0
  have y1 := k0.free 1
  have y4 : w2c.cell? ⟨X, 0, none⟩ = some (.bool false) := k0.cell 0 rfl
  have y5 : w2c.cell? ⟨X, 1, none⟩ = some (.slice none 0 0) := k0.cell 1 rfl
  clear k0 bc
  have B2 := Lib.hid (B1.out.trans (Bw2.out.mono B1.out.size))
  have HG2 := Lib.hid (hgb.after Bw2.out)
  have K02 := Lib.hid ((K0.out.after hb1).after Bw2.out)
  have K12 := Lib.hid ((K1.out.after hb1).after Bw2.out)
  have HX2 := Lib.hid ((H1.out.after hb1).after Bw2.out)
  have HY2 := Lib.hid ((H2.out.after hb1).after Bw2.out)
  have HP := Lib.hid (parts_big x G s false a ga l gl cap gcap w2 HX2.out HG2.out b1 hGb (by omega))
  have s0 : w2.cell? ⟨w.heap.size, 0, none⟩ = some (.bool s) := K02.out.cell 0 rfl
  have s1 : w2.cell? ⟨w.heap.size, 1, none⟩ = some (.slice a l cap) := K02.out.cell 1 rfl
  have s2 : w2.cell? ⟨w.heap.size, 2, none⟩ = some (.bool t) := K02.out.cell 2 rfl
  have s3 : w2.cell? ⟨w.heap.size, 3, none⟩ = some (.slice b m cap') := K02.out.cell 3 rfl
  have g0 : w2.cell? ⟨X, 0, none⟩ = some (.bool false) := KX.out.cell 0 rfl
  have g1 : w2.cell? ⟨X, 1, none⟩ = some (.slice ga gl gcap) := KX.out.cell 1 rfl
  clear hgb hb1 K0 K1 H1 H2
  go_wp2_with fail
  with_reducible refine HP.out.mono ?_
  rintro e w3 ⟨a1, l1, c1, a2, l2, c2, rfl, hq, _, hb3, _, _⟩
  have HQ3 : Hid (BigAt w3 ((x.natAbs / G : Nat) : Int) false a1 l1 c1) := hq
  have B3 := Lib.hid (B2.out.trans (hb3.mono B2.out.size))
  have HG3 := Lib.hid (HG2.out.after hb3)
  have K03 := Lib.hid (K02.out.after hb3)
  have K13 := Lib.hid (K12.out.after hb3)
  have HY3 := Lib.hid (HY2.out.after hb3)
  have KX3 := Lib.hid (KX.out.after hb3)
  clear hq hb3 s0 s1 s2 s3 g0 g1 HP hX hw2c hw2 y0 y1 y4 y5
  obtain ⟨Y, hY⟩ : ∃ X, w3.heap.size = X := ⟨_, rfl⟩
  obtain ⟨w4c, hw4c⟩ : ∃ wc, (w3.alloc (.cells #[.bool false, .slice none 0 0] 96)).alloc (.cells #[.bool false, .slice none 0 0] 96) = wc := ⟨_, rfl⟩
  have k0 : Blk w4c Y #[.bool false, .slice none 0 0] 96 := by rw [← hw4c, ← hY]; exact (Blk.new _ _ _).alloc _
  have k1 : Blk w4c (Y + 1) #[.bool false, .slice none 0 0] 96 := by rw [← hw4c, ← hY]; have := Blk.new (w3.alloc (.cells #[.bool false, .slice none 0 0] 96)) #[.bool false, .slice none 0 0] 96; simpa using this
  have bc : Below w3.heap.size w3 w4c := by rw [← hw4c]; exact ((Below.refl _ _).alloc (Nat.le_refl _) _).alloc (by simp) _
  obtain ⟨w4, hw4⟩ : ∃ wd, (((w4c.setCell ⟨Y, 0, none⟩ (.bool false)).setCell ⟨Y, 1, none⟩ (.slice a1 l1 c1)).setCell ⟨Y + 1, 0, none⟩ (.bool false)).setCell ⟨Y + 1, 1, none⟩ (.slice a2 l2 c2) = wd := ⟨_, rfl⟩
  have KY : Hid (Blk w4 Y #[.bool false, .slice a1 l1 c1] 96) := by show Blk _ _ _ _; rw [← hw4]; exact (((k0.set 0 _).set 1 _).far 0 _ (by simp)).far 1 _ (by simp)
  have Bw4 : Hid (Below w3.heap.size w3 w4) := by show Below _ _ _; rw [← hw4, hY]; rw [hY] at bc; exact (((bc.setCell (p := ⟨Y, 0, none⟩) (Nat.le_refl _) _).setCell (p := ⟨Y, 1, none⟩) (Nat.le_refl _) _).setCell (p := ⟨Y + 1, 0, none⟩) (by simp) _).setCell (p := ⟨Y + 1, 1, none⟩) (by simp) _
  have y0 := k0.free 0
  have y1 := k0.free 1
  have y2 := k1.free 0
  have y3 := k1.free 1
  have y4 : w4c.cell? ⟨Y, 0, none⟩ = some (.bool false) := k0.cell 0 rfl
  have y5 : w4c.cell? ⟨Y, 1, none⟩ = some (.slice none 0 0) := k0.cell 1 rfl
  have y6 : w4c.cell? ⟨Y + 1, 0, none⟩ = some (.bool false) := k1.cell 0 rfl
  have y7 : w4c.cell? ⟨Y + 1, 1, none⟩ = some (.slice none 0 0) := k1.cell 1 rfl
  clear k0 k1 bc
  have B4 := Lib.hid (B3.out.trans (Bw4.out.mono B3.out.size))
  have HG4 := Lib.hid (HG3.out.after Bw4.out)
  have K04 := Lib.hid (K03.out.after Bw4.out)
  have K14 := Lib.hid (K13.out.after Bw4.out)
  have HY4 := Lib.hid (HY3.out.after Bw4.out)
  have KX4 := Lib.hid (KX3.out.after Bw4.out)
  have HQ4 := Lib.hid (HQ3.out.after Bw4.out)
  have HP := Lib.hid (parts_big y G t false b ga m gl cap' gcap w4 HY4.out HG4.out b2 hGb (by omega))
  have s0 : w4.cell? ⟨w.heap.size, 0, none⟩ = some (.bool s) := K04.out.cell 0 rfl
  have s1 : w4.cell? ⟨w.heap.size, 1, none⟩ = some (.slice a l cap) := K04.out.cell 1 rfl
  have s2 : w4.cell? ⟨w.heap.size, 2, none⟩ = some (.bool t) := K04.out.cell 2 rfl
  have s3 : w4.cell? ⟨w.heap.size, 3, none⟩ = some (.slice b m cap') := K04.out.cell 3 rfl
  have g0 : w4.cell? ⟨X, 0, none⟩ = some (.bool false) := KX4.out.cell 0 rfl
  have g1 : w4.cell? ⟨X, 1, none⟩ = some (.slice ga gl gcap) := KX4.out.cell 1 rfl
  clear HX2 HG3 K03 K13 HY3 KX3 HQ3
  go_wp2_with fail
  with_reducible refine HP.out.mono ?_
  rintro e w5 ⟨a3, l3, c3, a4, l4, c4, rfl, hq, _, hb5, _, _⟩
  have HD5 : Hid (BigAt w5 ((y.natAbs / G : Nat) : Int) false a3 l3 c3) := hq
  have B5 := Lib.hid (B4.out.trans (hb5.mono B4.out.size))
  have HQ5 := Lib.hid (HQ4.out.after hb5)
  have K05 := Lib.hid (K04.out.after hb5)
  have K15 := Lib.hid (K14.out.after hb5)
  have KY5 := Lib.hid (KY.out.after hb5)
  clear hq hb5 s0 s1 s2 s3 g0 g1 HP hY hw4c hw4 y0 y1 y2 y3 y4 y5 y6 y7
  obtain ⟨Z, hZ⟩ : ∃ X, w5.heap.size = X := ⟨_, rfl⟩
  obtain ⟨w6c, hw6c⟩ : ∃ wc, (w5.alloc (.cells #[.bool false, .slice none 0 0] 96)).alloc (.cells #[.bool false, .slice none 0 0] 96) = wc := ⟨_, rfl⟩
  have k0 : Blk w6c Z #[.bool false, .slice none 0 0] 96 := by rw [← hw6c, ← hZ]; exact (Blk.new _ _ _).alloc _
  have k1 : Blk w6c (Z + 1) #[.bool false, .slice none 0 0] 96 := by rw [← hw6c, ← hZ]; have := Blk.new (w5.alloc (.cells #[.bool false, .slice none 0 0] 96)) #[.bool false, .slice none 0 0] 96; simpa using this
  have bc : Below w5.heap.size w5 w6c := by rw [← hw6c]; exact ((Below.refl _ _).alloc (Nat.le_refl _) _).alloc (by simp) _
  obtain ⟨w6, hw6⟩ : ∃ wd, (((w6c.setCell ⟨Z, 0, none⟩ (.bool false)).setCell ⟨Z, 1, none⟩ (.slice a3 l3 c3)).setCell ⟨Z + 1, 0, none⟩ (.bool false)).setCell ⟨Z + 1, 1, none⟩ (.slice a4 l4 c4) = wd := ⟨_, rfl⟩
  have KZ : Hid (Blk w6 Z #[.bool false, .slice a3 l3 c3] 96) := by show Blk _ _ _ _; rw [← hw6]; exact (((k0.set 0 _).set 1 _).far 0 _ (by simp)).far 1 _ (by simp)
  have Bw6 : Hid (Below w5.heap.size w5 w6) := by show Below _ _ _; rw [← hw6, hZ]; rw [hZ] at bc; exact (((bc.setCell (p := ⟨Z, 0, none⟩) (Nat.le_refl _) _).setCell (p := ⟨Z, 1, none⟩) (Nat.le_refl _) _).setCell (p := ⟨Z + 1, 0, none⟩) (by simp) _).setCell (p := ⟨Z + 1, 1, none⟩) (by simp) _
  have y0 := k0.free 0
  have y1 := k0.free 1
  have y2 := k1.free 0
  have y3 := k1.free 1
  have y4 : w6c.cell? ⟨Z, 0, none⟩ = some (.bool false) := k0.cell 0 rfl
  have y5 : w6c.cell? ⟨Z, 1, none⟩ = some (.slice none 0 0) := k0.cell 1 rfl
  have y6 : w6c.cell? ⟨Z + 1, 0, none⟩ = some (.bool false) := k1.cell 0 rfl
  have y7 : w6c.cell? ⟨Z + 1, 1, none⟩ = some (.slice none 0 0) := k1.cell 1 rfl
  clear k0 k1 bc
  have B6 := Lib.hid (B5.out.trans (Bw6.out.mono B5.out.size))
  have HQ6 := Lib.hid (HQ5.out.after Bw6.out)
  have HD6 := Lib.hid (HD5.out.after Bw6.out)
  have K06 := Lib.hid (K05.out.after Bw6.out)
  have K16 := Lib.hid (K15.out.after Bw6.out)
  have KY6 := Lib.hid (KY5.out.after Bw6.out)
  have g0 : w6.cell? ⟨Y, 0, none⟩ = some (.bool false) := KY6.out.cell 0 rfl
  have g1 : w6.cell? ⟨Y, 1, none⟩ = some (.slice a1 l1 c1) := KY6.out.cell 1 rfl
  obtain ⟨p, hp⟩ : ∃ p, x.natAbs / G = p := ⟨_, rfl⟩
  obtain ⟨q, hq⟩ : ∃ q, y.natAbs / G = q := ⟨_, rfl⟩
  rw [hp] at HQ6 HV
  rw [hq] at HD6 HV
  clear HQ5 HD5 K05 K15 KY5 hp hq HQ4 K04 K14 HY4 KX4 HG4 K02 K12 HY2 KX HG2
  have HI1 : Hid (∀ f, fitsI (p : Int) = f → Calls Try.prog 53 #[.agg #[.bool false, .slice a1 l1 c1]] w6 fun e w' => e = .returned (.tuple #[.int .i64 (if f then (p : Int) else 0), .bool f]) ∧ Below w6.heap.size w6 w') := fun f hf => by
    cases f
    · exact int_no _ _ _ _ _ _ HQ6.out hf
    · exact int_yes _ _ _ _ _ _ HQ6.out hf
  have HI2 : Hid (∀ f w7, Below w6.heap.size w6 w7 → fitsI (q : Int) = f → Calls Try.prog 53 #[.agg #[.bool false, .slice a3 l3 c3]] w7 fun e w' => e = .returned (.tuple #[.int .i64 (if f then (q : Int) else 0), .bool f]) ∧ Below w7.heap.size w7 w') := fun f w7 hb hf => by
    cases f
    · exact int_no _ _ _ _ _ _ (HD6.out.after hb) hf
    · exact int_yes _ _ _ _ _ _ (HD6.out.after hb) hf
  obtain ⟨f1, hf1⟩ : ∃ f, fitsI (p : Int) = f := ⟨_, rfl⟩
  obtain ⟨f2, hf2⟩ : ∃ f, fitsI (q : Int) = f := ⟨_, rfl⟩
  have HF1 := Lib.hid hf1
  rw [hf1, hf2] at HV
  obtain ⟨P1, hP1⟩ : ∃ P1, (if f1 = true then (p : Int) else 0) = P1 := ⟨_, rfl⟩
  obtain ⟨P2, hP2⟩ : ∃ P2, (if f2 = true then (q : Int) else 0) = P2 := ⟨_, rfl⟩
  have HP1 := Lib.hid hP1
  have HP2 := Lib.hid hP2
  have HC1 := Lib.hid (HI1.out f1 hf1)
  have HC2 := Lib.hid (fun w7 hb => HI2.out f2 w7 hb hf2)
  rw [hP1] at HC1
  simp only [hP2] at HC2
  clear hf1 hf2 HI1 HI2 hP1 hP2
  go_wp2_with fail
  with_reducible refine HC1.out.mono ?_
  rintro e w7 ⟨rfl, hb7⟩
  have B7 := Lib.hid hb7
  have KZ7 := Lib.hid (KZ.out.after hb7)
  clear hb7 g0 g1 hZ hw6c hw6 y0 y1 y2 y3 y4 y5 y6 y7 HC1
  have g0 : w7.cell? ⟨Z, 0, none⟩ = some (.bool false) := KZ7.out.cell 0 rfl
  have g1 : w7.cell? ⟨Z, 1, none⟩ = some (.slice a3 l3 c3) := KZ7.out.cell 1 rfl
  have HC3 := Lib.hid (HC2.out w7 B7.out)
  go_wp2_with fail
  with_reducible refine HC3.out.mono ?_
  rintro e w8 ⟨rfl, hb8⟩
  have B8 := Lib.hid ((B6.out.trans (B7.out.mono B6.out.size)).trans (hb8.mono (Nat.le_trans B6.out.size B7.out.size)))
  have K18 := Lib.hid ((K16.out.after B7.out).after hb8)
  have K08 := Lib.hid ((K06.out.after B7.out).after hb8)
  have r0 := K18.out.free 0
  have r1 := K18.out.free 1
  have r2 : w8.cell? ⟨w.heap.size + 1, 0, none⟩ = some (.int .i64 0) := K18.out.cell 0 rfl
  have r3 : w8.cell? ⟨w.heap.size + 1, 1, none⟩ = some (.int .i64 0) := K18.out.cell 1 rfl
  have s0 : w8.cell? ⟨w.heap.size, 0, none⟩ = some (.bool s) := K08.out.cell 0 rfl
  have s1 : w8.cell? ⟨w.heap.size, 1, none⟩ = some (.slice a l cap) := K08.out.cell 1 rfl
  have s2 : w8.cell? ⟨w.heap.size, 2, none⟩ = some (.bool t) := K08.out.cell 2 rfl
  have s3 : w8.cell? ⟨w.heap.size, 3, none⟩ = some (.slice b m cap') := K08.out.cell 3 rfl
  clear hb8 g0 g1 HC3 HC2
  have HE : Hid (∀ (u v : Int) (er : Int), V = ((u, v), er) → RatioEnd x y w (.returned (.tuple #[.agg #[.int .i64 u, .int .i64 v], .int .i64 er])) ((w8.setCell ⟨w.heap.size + 1, 0, none⟩ (.int .i64 u)).setCell ⟨w.heap.size + 1, 1, none⟩ (.int .i64 v))) := fun u v er h => by
    rw [HEND.out, h]
    exact ⟨rfl, (B8.out.setCell (p := ⟨w.heap.size + 1, 0, none⟩) (by simp) _).setCell (p := ⟨w.heap.size + 1, 1, none⟩) (by simp) _⟩
  cases f1 with
  | false =>
    have HV2 : Hid (V = ((0, 0), 11)) := by rw [show V = _ from HV.out, if_neg (by simp)]; exact rfl
    clear HV
    go_wp2_with fail
    refine bodyPost_ret (v := .tuple #[.agg #[.int .i64 0, .int .i64 0], .int .i64 11]) ?_ rfl ?_
    · simp [results, Try.results38, go_sem, r2, r3]
    · exact HE.out 0 0 11 HV2.out
  | true =>
    cases f2 with
    | false =>
      have HV2 : Hid (V = ((0, 0), 11)) := by rw [show V = _ from HV.out, if_neg (by simp)]; exact rfl
      clear HV
      go_wp2_with fail
      refine bodyPost_ret (v := .tuple #[.agg #[.int .i64 0, .int .i64 0], .int .i64 11]) ?_ rfl ?_
      · simp [results, Try.results38, go_sem, r2, r3]
      · exact HE.out 0 0 11 HV2.out
    | true =>
      obtain rfl : (p : Int) = P1 := HP1.out
      obtain rfl : (q : Int) = P2 := HP2.out
      have hpl : (p : Int) ≤ 9223372036854775807 := by
        have := HF1.out
        unfold fitsI at this
        rw [decide_eq_true_iff] at this
        exact this.2
      have hpw : IntKind.i64.wrap (-(p : Int)) = -(p : Int) := IntWalk.i64_in _ (by omega)
      cases s <;> cases t
      · have HV2 : Hid (V = (((p : Int), (q : Int)), 0)) := by rw [show V = _ from HV.out, if_pos (by simp), if_pos (by rw [← HS.out, ← HT.out])]; exact rfl
        clear HV
        go_wp2_with fail
        refine bodyPost_ret (v := .tuple #[.agg #[.int .i64 ((p : Int)), .int .i64 (q : Int)], .int .i64 0]) ?_ rfl ?_
        · simp [results, Try.results38, go_sem, r2, r3]
        · exact HE.out _ _ _ HV2.out
      · have HV2 : Hid (V = ((-(p : Int), (q : Int)), 0)) := by rw [show V = _ from HV.out, if_pos (by simp), if_neg (by rw [← HS.out, ← HT.out]; simp)]; exact rfl
        clear HV
        go_wp2_with fail
        refine bodyPost_ret (v := .tuple #[.agg #[.int .i64 (-(p : Int)), .int .i64 (q : Int)], .int .i64 0]) ?_ rfl ?_
        · simp [results, Try.results38, go_sem, r2, r3]
        · exact HE.out _ _ _ HV2.out
      · have HV2 : Hid (V = ((-(p : Int), (q : Int)), 0)) := by rw [show V = _ from HV.out, if_pos (by simp), if_neg (by rw [← HS.out, ← HT.out]; simp)]; exact rfl
        clear HV
        go_wp2_with fail
        refine bodyPost_ret (v := .tuple #[.agg #[.int .i64 (-(p : Int)), .int .i64 (q : Int)], .int .i64 0]) ?_ rfl ?_
        · simp [results, Try.results38, go_sem, r2, r3]
        · exact HE.out _ _ _ HV2.out
      · have HV2 : Hid (V = (((p : Int), (q : Int)), 0)) := by rw [show V = _ from HV.out, if_pos (by simp), if_pos (by rw [← HS.out, ← HT.out])]; exact rfl
        clear HV
        go_wp2_with fail
        refine bodyPost_ret (v := .tuple #[.agg #[.int .i64 ((p : Int)), .int .i64 (q : Int)], .int .i64 0]) ?_ rfl ?_
        · simp [results, Try.results38, go_sem, r2, r3]
        · exact HE.out _ _ _ HV2.out

end Go.Proofs.Ytfimgdjpnlcckaa
