/- The statement EntryFlows: its walk. -/
import Derived.Test.YtklbgcpafbjekaaDoorEntP
import Derived.Deep.RegionHeld3
namespace Go.Proofs.YtklbgcpafbjekaaDoor
open Go.RowKit
set_option linter.unusedVariables false
set_option linter.unusedSimpArgs false


set_option maxHeartbeats 4000000 in
theorem flows_bad (W : World) (hR : RulesAt W) (con day cur am h v : Int) (ham : -9223372036854775808 ≤ am ∧ am ≤ 9223372036854775807) (HB : Hid (flowErr con day cur am h v ≠ 0)) :
    Calls Tryd.prog 4 #[.agg #[.int .i64 con, .int .i64 day, .int .i64 cur], .int .i64 am, .agg #[.int .i64 h, .int .i64 v]] W fun e W' => e = .returned (.bool true) ∧ Below W.heap.size W W' := by
  obtain ⟨wa, hwa⟩ : ∃ wa, W.alloc (.cells #[.int .i64 con, .int .i64 day, .int .i64 cur] 23) = wa := ⟨_, rfl⟩
  obtain ⟨wb, hwb⟩ : ∃ wb, wa.alloc (.cells #[.int .i64 h, .int .i64 v] 44) = wb := ⟨_, rfl⟩
  have k0 : Blk wa W.heap.size #[.int .i64 con, .int .i64 day, .int .i64 cur] 23 := by rw [← hwa]; exact Blk.new _ _ _
  have k1 : Blk wb wa.heap.size #[.int .i64 h, .int .i64 v] 44 := by rw [← hwb]; exact Blk.new _ _ _
  have ba : Below W.heap.size W wa := by rw [← hwa]; exact (Below.refl _ _).alloc (Nat.le_refl _) _
  have bb : Below wa.heap.size wa wb := by rw [← hwb]; exact (Below.refl _ _).alloc (Nat.le_refl _) _
  have K0 := Lib.hid (k0.after bb)
  have K1 := Lib.hid k1
  have hbw : Below W.heap.size W wb := ba.trans (bb.mono ba.size)
  have HR := Lib.hid (hR.after hbw)
  clear k0 k1 ba bb hR
  have a0 : wb.cell? ⟨W.heap.size, 0, none⟩ = some (.int .i64 con) := (K0.out.after (Below.refl _ _)).cell 0 rfl
  have a1 : wb.cell? ⟨W.heap.size, 1, none⟩ = some (.int .i64 day) := (K0.out.after (Below.refl _ _)).cell 1 rfl
  have a2 : wb.cell? ⟨W.heap.size, 2, none⟩ = some (.int .i64 cur) := (K0.out.after (Below.refl _ _)).cell 2 rfl
  have b0 : wb.cell? ⟨wa.heap.size, 0, none⟩ = some (.int .i64 h) := (K1.out.after (Below.refl _ _)).cell 0 rfl
  have b1 : wb.cell? ⟨wa.heap.size, 1, none⟩ = some (.int .i64 v) := (K1.out.after (Below.refl _ _)).cell 1 rfl
  have z0 : W.heap.size < wb.heap.size := (K0.out.after (Below.refl _ _)).lt
  have z1 : wa.heap.size < wb.heap.size := (K1.out.after (Below.refl _ _)).lt
  go_enter Tryd.func4, Tryd.ntmps4
  go_wp2_with fail
  clear hwa hwb a0 a1 a2 b0 b1 z0 z1
  with_reducible refine (flow_ok con day cur am h v _ ham).mono ?_
  rintro e w1 ⟨hb1, HF1⟩
  obtain ⟨h0, _⟩ | ⟨_, rfl⟩ := HF1
  · exact absurd h0 HB.out
  obtain ⟨E, hE⟩ : ∃ E, flowErr con day cur am h v = E := ⟨_, rfl⟩
  rw [hE] at HB ⊢
  have HEE := Lib.hid hE
  clear hE
  dsimp only [entV, zero6]
  obtain ⟨wc, hwc⟩ : ∃ wc, w1.alloc (.cells (entCs zero6 none 0 0) 26) = wc := ⟨_, rfl⟩
  have k2 : Blk wc w1.heap.size (entCs zero6 none 0 0) 26 := by rw [← hwc]; exact Blk.new _ _ _
  have bc : Below w1.heap.size w1 wc := by rw [← hwc]; exact (Below.refl _ _).alloc (Nat.le_refl _) _
  have hbc : Below wb.heap.size wb wc := hb1.trans (bc.mono hb1.size)
  have K2 := Lib.hid k2
  clear k2 bc
  dsimp only [entCs, zero6] at hwc
  have HWC := Lib.hid hwc
  clear hwc
  have a0 : w1.cell? ⟨W.heap.size, 0, none⟩ = some (.int .i64 con) := (K0.out.after (hb1)).cell 0 rfl
  have a1 : w1.cell? ⟨W.heap.size, 1, none⟩ = some (.int .i64 day) := (K0.out.after (hb1)).cell 1 rfl
  have a2 : w1.cell? ⟨W.heap.size, 2, none⟩ = some (.int .i64 cur) := (K0.out.after (hb1)).cell 2 rfl
  have b0 : w1.cell? ⟨wa.heap.size, 0, none⟩ = some (.int .i64 h) := (K1.out.after (hb1)).cell 0 rfl
  have b1 : w1.cell? ⟨wa.heap.size, 1, none⟩ = some (.int .i64 v) := (K1.out.after (hb1)).cell 1 rfl
  have z0 : W.heap.size < w1.heap.size := (K0.out.after (hb1)).lt
  have z1 : wa.heap.size < w1.heap.size := (K1.out.after (hb1)).lt
  go_wp2_with fail
  rw [HWC.out]
  clear HWC a0 a1 a2 b0 b1 z0 z1
  with_reducible refine (refflow_ok con day cur am h v _ ham).mono ?_
  rintro e w2 ⟨hb2, HF2⟩
  obtain ⟨h0, _⟩ | ⟨_, rfl⟩ := HF2
  · exact absurd (HEE.out.symm.trans h0) HB.out
  rw [HEE.out]
  dsimp only [entV, zero6]
  have b1' : (E != 0) = true := by rw [bne_iff_ne]; exact HB.out
  have hbd : Below wc.heap.size wc (w2.alloc (.cells (entCs zero6 none 0 0) 35)) := (hb2.alloc hb2.size _)
  have KD := Lib.hid (K2.out.after hbd)
  dsimp only [entCs, zero6] at hbd KD
  have c0 := KD.out.cell 0 (v := .int .i64 0) rfl
  have c1 := KD.out.cell 1 (v := .int .i64 0) rfl
  have c2 := KD.out.cell 2 (v := .int .i64 0) rfl
  have c3 := KD.out.cell 3 (v := .int .i64 0) rfl
  have c4 := KD.out.cell 4 (v := .int .i64 0) rfl
  have c5 := KD.out.cell 5 (v := .int .i64 0) rfl
  have c6 := KD.out.cell 6 (v := .slice none 0 0) rfl
  have hsz := same_zero
  dsimp only [entV, zero6] at hsz
  have HSZ := Lib.hid hsz
  have HRD := Lib.hid (HR.out.after (hbc.trans (hbd.mono hbc.size)))
  clear hsz
  go_wp2_with fail
  with_reducible refine (HSZ.out _).mono ?_
  rintro e w3 ⟨rfl, hb3⟩
  go_wp2_with fail
  with_reducible refine (awake_ok _ (HRD.out.after hb3)).mono ?_
  rintro e w4 ⟨rfl, hb4⟩
  go_wp2_with fail
  go_ret
  have hbd' := hbc.trans (hbd.mono hbc.size)
  have hb3' := hbd'.trans (hb3.mono hbd'.size)
  exact ⟨rfl, hbw.trans ((hb3'.trans (hb4.mono hb3'.size)).mono hbw.size)⟩


set_option maxHeartbeats 4000000 in
theorem flows_good (W : World) (hR : RulesAt W) (con day cur am h v : Int) (ham : -9223372036854775808 ≤ am ∧ am ≤ 9223372036854775807) (HB : Hid (flowErr con day cur am h v = 0)) :
    Calls Tryd.prog 4 #[.agg #[.int .i64 con, .int .i64 day, .int .i64 cur], .int .i64 am, .agg #[.int .i64 h, .int .i64 v]] W fun e W' => e = .returned (.bool true) ∧ Below W.heap.size W W' := by
  obtain ⟨wa, hwa⟩ : ∃ wa, W.alloc (.cells #[.int .i64 con, .int .i64 day, .int .i64 cur] 23) = wa := ⟨_, rfl⟩
  obtain ⟨wb, hwb⟩ : ∃ wb, wa.alloc (.cells #[.int .i64 h, .int .i64 v] 44) = wb := ⟨_, rfl⟩
  have k0 : Blk wa W.heap.size #[.int .i64 con, .int .i64 day, .int .i64 cur] 23 := by rw [← hwa]; exact Blk.new _ _ _
  have k1 : Blk wb wa.heap.size #[.int .i64 h, .int .i64 v] 44 := by rw [← hwb]; exact Blk.new _ _ _
  have ba : Below W.heap.size W wa := by rw [← hwa]; exact (Below.refl _ _).alloc (Nat.le_refl _) _
  have bb : Below wa.heap.size wa wb := by rw [← hwb]; exact (Below.refl _ _).alloc (Nat.le_refl _) _
  have K0 := Lib.hid (k0.after bb)
  have K1 := Lib.hid k1
  have hbw : Below W.heap.size W wb := ba.trans (bb.mono ba.size)
  have HR := Lib.hid (hR.after hbw)
  clear k0 k1 ba bb hR
  have a0 : wb.cell? ⟨W.heap.size, 0, none⟩ = some (.int .i64 con) := (K0.out.after (Below.refl _ _)).cell 0 rfl
  have a1 : wb.cell? ⟨W.heap.size, 1, none⟩ = some (.int .i64 day) := (K0.out.after (Below.refl _ _)).cell 1 rfl
  have a2 : wb.cell? ⟨W.heap.size, 2, none⟩ = some (.int .i64 cur) := (K0.out.after (Below.refl _ _)).cell 2 rfl
  have b0 : wb.cell? ⟨wa.heap.size, 0, none⟩ = some (.int .i64 h) := (K1.out.after (Below.refl _ _)).cell 0 rfl
  have b1 : wb.cell? ⟨wa.heap.size, 1, none⟩ = some (.int .i64 v) := (K1.out.after (Below.refl _ _)).cell 1 rfl
  have z0 : W.heap.size < wb.heap.size := (K0.out.after (Below.refl _ _)).lt
  have z1 : wa.heap.size < wb.heap.size := (K1.out.after (Below.refl _ _)).lt
  go_enter Tryd.func4, Tryd.ntmps4
  go_wp2_with fail
  clear hwa hwb a0 a1 a2 b0 b1 z0 z1
  with_reducible refine (flow_ok con day cur am h v _ ham).mono ?_
  rintro e w1 ⟨hb1, HF1⟩
  obtain ⟨_, c, rfl, hln1, hc1⟩ | ⟨h0, _⟩ := HF1
  rotate_left
  · exact absurd HB.out h0
  dsimp only [entV]
  obtain ⟨wc, hwc⟩ : ∃ wc, w1.alloc (.cells #[.int .i64 con, .int .i64 day, .int .i64 cur, .int .i64 0, .int .i64 0, .int .i64 (-1), .slice (some ⟨c, 0, none⟩) 2 2] 26) = wc := ⟨_, rfl⟩
  have k2 : Blk wc w1.heap.size #[.int .i64 con, .int .i64 day, .int .i64 cur, .int .i64 0, .int .i64 0, .int .i64 (-1), .slice (some ⟨c, 0, none⟩) 2 2] 26 := by rw [← hwc]; exact Blk.new _ _ _
  have bc : Below w1.heap.size w1 wc := by rw [← hwc]; exact (Below.refl _ _).alloc (Nat.le_refl _) _
  have hbc : Below wb.heap.size wb wc := hb1.trans (bc.mono hb1.size)
  have K2 := Lib.hid k2
  have HL1 := Lib.hid (hln1.after bc)
  have HWC := Lib.hid hwc
  clear k2 bc hln1 hwc
  have a0 : w1.cell? ⟨W.heap.size, 0, none⟩ = some (.int .i64 con) := (K0.out.after (hb1)).cell 0 rfl
  have a1 : w1.cell? ⟨W.heap.size, 1, none⟩ = some (.int .i64 day) := (K0.out.after (hb1)).cell 1 rfl
  have a2 : w1.cell? ⟨W.heap.size, 2, none⟩ = some (.int .i64 cur) := (K0.out.after (hb1)).cell 2 rfl
  have b0 : w1.cell? ⟨wa.heap.size, 0, none⟩ = some (.int .i64 h) := (K1.out.after (hb1)).cell 0 rfl
  have b1 : w1.cell? ⟨wa.heap.size, 1, none⟩ = some (.int .i64 v) := (K1.out.after (hb1)).cell 1 rfl
  have z0 : W.heap.size < w1.heap.size := (K0.out.after (hb1)).lt
  have z1 : wa.heap.size < w1.heap.size := (K1.out.after (hb1)).lt
  go_wp2_with fail
  rw [HWC.out]
  clear HWC a0 a1 a2 b0 b1 z0 z1
  with_reducible refine (refflow_ok con day cur am h v _ ham).mono ?_
  rintro e w2 ⟨hb2, HF2⟩
  obtain ⟨_, d, rfl, hln2, hd2⟩ | ⟨h0, _⟩ := HF2
  rotate_left
  · exact absurd HB.out h0
  dsimp only [entV]
  obtain ⟨wd, hwd⟩ : ∃ wd, w2.alloc (.cells #[.int .i64 con, .int .i64 day, .int .i64 cur, .int .i64 0, .int .i64 0, .int .i64 (-1), .slice (some ⟨d, 0, none⟩) 2 2] 35) = wd := ⟨_, rfl⟩
  have k3 : Blk wd w2.heap.size #[.int .i64 con, .int .i64 day, .int .i64 cur, .int .i64 0, .int .i64 0, .int .i64 (-1), .slice (some ⟨d, 0, none⟩) 2 2] 35 := by rw [← hwd]; exact Blk.new _ _ _
  have bd : Below w2.heap.size w2 wd := by rw [← hwd]; exact (Below.refl _ _).alloc (Nat.le_refl _) _
  have hcd : Below wc.heap.size wc wd := hb2.trans (bd.mono hb2.size)
  have hbd : Below wb.heap.size wb wd := hbc.trans (hcd.mono hbc.size)
  have K2D := Lib.hid (K2.out.after hcd)
  have K3 := Lib.hid k3
  have HL1D := Lib.hid (HL1.out.after hcd)
  have HL2D := Lib.hid (hln2.after bd)
  have HRD := Lib.hid (HR.out.after hbd)
  have HWD := Lib.hid hwd
  have HS : Hid (∀ w', Below wd.heap.size wd w' → w'.cell? ⟨w1.heap.size, 0, none⟩ = some (.int .i64 con) ∧ w'.cell? ⟨w1.heap.size, 1, none⟩ = some (.int .i64 day) ∧ w'.cell? ⟨w1.heap.size, 2, none⟩ = some (.int .i64 cur) ∧ w'.cell? ⟨w1.heap.size, 3, none⟩ = some (.int .i64 0) ∧ w'.cell? ⟨w1.heap.size, 4, none⟩ = some (.int .i64 0) ∧ w'.cell? ⟨w1.heap.size, 5, none⟩ = some (.int .i64 (-1)) ∧ w'.cell? ⟨w1.heap.size, 6, none⟩ = some (.slice (some ⟨c, 0, none⟩) 2 2)
      ∧ w'.cell? ⟨w2.heap.size, 0, none⟩ = some (.int .i64 con) ∧ w'.cell? ⟨w2.heap.size, 1, none⟩ = some (.int .i64 day) ∧ w'.cell? ⟨w2.heap.size, 2, none⟩ = some (.int .i64 cur) ∧ w'.cell? ⟨w2.heap.size, 3, none⟩ = some (.int .i64 0) ∧ w'.cell? ⟨w2.heap.size, 4, none⟩ = some (.int .i64 0) ∧ w'.cell? ⟨w2.heap.size, 5, none⟩ = some (.int .i64 (-1)) ∧ w'.cell? ⟨w2.heap.size, 6, none⟩ = some (.slice (some ⟨d, 0, none⟩) 2 2)) := fun w' hw' =>
    ⟨(K2D.out.after hw').cell 0 rfl, (K2D.out.after hw').cell 1 rfl, (K2D.out.after hw').cell 2 rfl, (K2D.out.after hw').cell 3 rfl, (K2D.out.after hw').cell 4 rfl, (K2D.out.after hw').cell 5 rfl, (K2D.out.after hw').cell 6 rfl,
     (K3.out.after hw').cell 0 rfl, (K3.out.after hw').cell 1 rfl, (K3.out.after hw').cell 2 rfl, (K3.out.after hw').cell 3 rfl, (K3.out.after hw').cell 4 rfl, (K3.out.after hw').cell 5 rfl, (K3.out.after hw').cell 6 rfl⟩
  clear k3 bd hln2 hwd
  go_wp2_with fail
  rw [HWD.out]
  clear HWD
  have hdr : Below wd.heap.size wd wd.drew := (Below.refl _ _).drew
  have PL : Hid (∀ w', Below wd.heap.size wd w' → Calls Tryd.prog 12 #[.agg #[.int .i64 con, .int .i64 day, .int .i64 cur, .int .i64 0, .int .i64 0, .int .i64 (-1), .slice (some ⟨c, 0, none⟩) 2 2]] w' (PlainEnd ⟨con, day, cur, 0, 0, -1⟩ [⟨h, cur, am⟩, ⟨v, cur, -am⟩] w')) := fun w' hw' =>
    plain_ok ⟨con, day, cur, 0, 0, -1⟩ (some ⟨c, 0, none⟩) 2 [⟨h, cur, am⟩, ⟨v, cur, -am⟩] w' (HL1D.out.after hw') (by simp)
  have AL : Hid (∀ w' g gc, Below wd.heap.size wd w' → LnAt w' g [⟨h, cur, am⟩, ⟨v, cur, -am⟩] → Calls Tryd.prog 16 #[.agg #[.int .i64 con, .int .i64 day, .int .i64 cur, .int .i64 0, .int .i64 0, .int .i64 (-1), .slice g 2 gc], .agg #[.int .i64 con, .int .i64 day, .int .i64 cur, .int .i64 0, .int .i64 0, .int .i64 (-1), .slice (some ⟨d, 0, none⟩) 2 2]] w' fun e W' => e = .returned (.bool true) ∧ Below w'.heap.size w' W') := fun w' g gc hw' hg => by
    have := alike_ok ⟨con, day, cur, 0, 0, -1⟩ ⟨con, day, cur, 0, 0, -1⟩ g (some ⟨d, 0, none⟩) gc 2 [⟨h, cur, am⟩, ⟨v, cur, -am⟩] [⟨h, cur, am⟩, ⟨v, cur, -am⟩] w' hg (HL2D.out.after hw') (by simp) (by simp)
    rw [decide_eq_true ⟨rfl, rfl⟩] at this
    exact this
  go_region_held3 (fun w' => w'.cell? ⟨w1.heap.size, 0, none⟩ = some (.int .i64 con) ∧ w'.cell? ⟨w1.heap.size, 1, none⟩ = some (.int .i64 day) ∧ w'.cell? ⟨w1.heap.size, 2, none⟩ = some (.int .i64 cur) ∧ w'.cell? ⟨w1.heap.size, 3, none⟩ = some (.int .i64 0) ∧ w'.cell? ⟨w1.heap.size, 4, none⟩ = some (.int .i64 0) ∧ w'.cell? ⟨w1.heap.size, 5, none⟩ = some (.int .i64 (-1)) ∧ w'.cell? ⟨w1.heap.size, 6, none⟩ = some (.slice (some ⟨c, 0, none⟩) 2 2)
      ∧ w'.cell? ⟨w2.heap.size, 0, none⟩ = some (.int .i64 con) ∧ w'.cell? ⟨w2.heap.size, 1, none⟩ = some (.int .i64 day) ∧ w'.cell? ⟨w2.heap.size, 2, none⟩ = some (.int .i64 cur) ∧ w'.cell? ⟨w2.heap.size, 3, none⟩ = some (.int .i64 0) ∧ w'.cell? ⟨w2.heap.size, 4, none⟩ = some (.int .i64 0) ∧ w'.cell? ⟨w2.heap.size, 5, none⟩ = some (.int .i64 (-1)) ∧ w'.cell? ⟨w2.heap.size, 6, none⟩ = some (.slice (some ⟨d, 0, none⟩) 2 2))
    (first | with_reducible exact HS.out _ hbZ | with_reducible exact HS.out _ hbY | with_reducible exact HS.out _ hbX | with_reducible exact HS.out _ hdr)
    (first
      | (go_at_call 12; (with_reducible refine (PL.out _ hdr).mono ?_); rintro e w3 ⟨g, gc, rfl, _, hg, hb3, _⟩; have hbX := hdr.trans (hb3.mono hdr.size); dsimp only [entV, List.length])
      | (go_at_call 16; (with_reducible refine (AL.out _ _ _ hbX hg).mono ?_); rintro e w4 ⟨rfl, hb4⟩; have hbY := hbX.trans (hb4.mono hbX.size))
      | (go_at_call 9; (with_reducible refine (awake_ok _ (HRD.out.after hbY)).mono ?_); rintro e w5 ⟨rfl, hb5⟩; have hbZ := hbY.trans (hb5.mono hbY.size)))
  go_wp2_with fail
  go_ret
  have hbE := hbd.trans (hbZ.mono hbd.size)
  exact ⟨rfl, hbw.trans (hbE.mono hbw.size)⟩

theorem walk_EntryFlows (W : World) (hR : RulesAt W) (con day cur am h v : Int) (ham : -9223372036854775808 ≤ am ∧ am ≤ 9223372036854775807) :
    Calls Tryd.prog 4 #[.agg #[.int .i64 con, .int .i64 day, .int .i64 cur], .int .i64 am, .agg #[.int .i64 h, .int .i64 v]] W fun e W' => e = .returned (.bool true) ∧ Below W.heap.size W W' := by
  by_cases hE : flowErr con day cur am h v = 0
  · exact flows_good W hR con day cur am h v ham hE
  · exact flows_bad W hR con day cur am h v ham hE

end Go.Proofs.YtklbgcpafbjekaaDoor
