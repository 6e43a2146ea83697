/- The statement EntryTurns: its walk. -/
import Derived.Test.YtklbgcpafbjekaaDoorEntYb
namespace Go.Proofs.YtklbgcpafbjekaaDoor
open Go.RowKit
set_option linter.unusedVariables false
set_option linter.unusedSimpArgs false


set_option maxHeartbeats 4000000 in
theorem turns_bad (W : World) (hR : RulesAt W) (con day cur am h v : Int) (ham : -9223372036854775808 ≤ am ∧ am ≤ 9223372036854775807) (HB : Hid (flowErr con day cur am h v ≠ 0)) :
    Calls Tryd.prog 5 #[.agg #[.int .i64 con, .int .i64 day, .int .i64 cur], .int .i64 am, .agg #[.int .i64 h, .int .i64 v]] W fun e W' => e = .returned (.bool true) ∧ Below W.heap.size W W' := by
  obtain ⟨wa, hwa⟩ : ∃ wa, W.alloc (.cells #[.int .i64 con, .int .i64 day, .int .i64 cur] 23) = wa := ⟨_, rfl⟩
  obtain ⟨wb, hwb⟩ : ∃ wb, wa.alloc (.cells #[.int .i64 h, .int .i64 v] 44) = wb := ⟨_, rfl⟩
  have k0 : Blk wa W.heap.size #[.int .i64 con, .int .i64 day, .int .i64 cur] 23 := by rw [← hwa]; exact Blk.new _ _ _
  have k1 : Blk wb wa.heap.size #[.int .i64 h, .int .i64 v] 44 := by rw [← hwb]; exact Blk.new _ _ _
  have ba : Below W.heap.size W wa := by rw [← hwa]; exact (Below.refl _ _).alloc (Nat.le_refl _) _
  have bb : Below wa.heap.size wa wb := by rw [← hwb]; exact (Below.refl _ _).alloc (Nat.le_refl _) _
  have K0 := Lib.hid (k0.after bb)
  have K1 := Lib.hid k1
  have hbw : Below W.heap.size W wb := ba.trans (bb.mono ba.size)
  have HR := Lib.hid (hR.after hbw)
  clear k0 k1 ba bb hR
  have a0 : wb.cell? ⟨W.heap.size, 0, none⟩ = some (.int .i64 con) := (K0.out.after (Below.refl _ _)).cell 0 rfl
  have a1 : wb.cell? ⟨W.heap.size, 1, none⟩ = some (.int .i64 day) := (K0.out.after (Below.refl _ _)).cell 1 rfl
  have a2 : wb.cell? ⟨W.heap.size, 2, none⟩ = some (.int .i64 cur) := (K0.out.after (Below.refl _ _)).cell 2 rfl
  have b0 : wb.cell? ⟨wa.heap.size, 0, none⟩ = some (.int .i64 h) := (K1.out.after (Below.refl _ _)).cell 0 rfl
  have b1 : wb.cell? ⟨wa.heap.size, 1, none⟩ = some (.int .i64 v) := (K1.out.after (Below.refl _ _)).cell 1 rfl
  have z0 : W.heap.size < wb.heap.size := (K0.out.after (Below.refl _ _)).lt
  have z1 : wa.heap.size < wb.heap.size := (K1.out.after (Below.refl _ _)).lt
  go_enter Tryd.func5, Tryd.ntmps5
  go_wp2_with fail
  clear hwa hwb a0 a1 a2 b0 b1 z0 z1
  with_reducible refine (flow_ok con day cur am h v _ ham).mono ?_
  rintro e w1 ⟨hb1, HF1⟩
  obtain ⟨h0, _⟩ | ⟨_, rfl⟩ := HF1
  · exact absurd h0 HB.out
  obtain ⟨E, hE⟩ : ∃ E, flowErr con day cur am h v = E := ⟨_, rfl⟩
  rw [hE] at HB ⊢
  clear hE
  have b1' : (E != 0) = true := by rw [bne_iff_ne]; exact HB.out
  obtain ⟨wc, hwc⟩ : ∃ wc, w1.alloc (.cells (entCs zero6 none 0 0) 26) = wc := ⟨_, rfl⟩
  have k2 : Blk wc w1.heap.size (entCs zero6 none 0 0) 26 := by rw [← hwc]; exact Blk.new _ _ _
  have bc : Below w1.heap.size w1 wc := by rw [← hwc]; exact (Below.refl _ _).alloc (Nat.le_refl _) _
  have hbc : Below wb.heap.size wb wc := hb1.trans (bc.mono hb1.size)
  obtain ⟨c0, c1, c2, c3, c4, c5, c6⟩ := k2.cells7
  have hck : Calls Tryd.prog 13 #[.agg #[.int .i64 0, .int .i64 0, .int .i64 0, .int .i64 0, .int .i64 0, .int .i64 0, .slice none 0 0]] wc fun e w' => e = .returned (.int .i64 1) ∧ Below wc.heap.size wc w' := by
    have := check_ok zero6 none 0 [] wc (HR.out.after hbc) (fun h => absurd h (by simp)) (by simp) (fun l hl => by cases hl)
    rw [show checkE zero6 [] = 1 from by kernel_rfl] at this
    exact this
  have HCK := Lib.hid hck
  have HWC := Lib.hid hwc
  clear k2 bc hwc hck
  dsimp only [entV, entCs, zero6] at HWC c0 c1 c2 c3 c4 c5 c6 ⊢
  go_wp2_with fail
  rw [HWC.out]
  with_reducible refine HCK.out.mono ?_
  rintro e w2 ⟨rfl, hb2⟩
  have hb2' := hbc.trans (hb2.mono hbc.size)
  go_wp2_with fail
  with_reducible refine (awake_ok _ (HR.out.after hb2')).mono ?_
  rintro e w3 ⟨rfl, hb3⟩
  go_wp2_with fail
  go_ret
  exact ⟨rfl, hbw.trans ((hb2'.trans (hb3.mono hb2'.size)).mono hbw.size)⟩


theorem rows_of_blk {w : World} {B n size : Nat} {cs : Array Value} {T : TypeId} {f : Nat → List Value} (h : Blk w B cs T) (hf : ∀ i, i < n → ∀ (j : Nat) (v : Value), (f i)[j]? = some v → cs[i * size + j]? = some v) : RowsAt w (some ⟨B, 0, none⟩) n size f :=
  fun _ => ⟨B, 0, rfl, fun i hi j v hv => by rw [Nat.zero_add]; exact h.cell _ (hf i hi j v hv)⟩
theorem six_lt {j : Nat} {l : List Value} {v : Value} (hl : l.length = 7) (h : l[j]? = some v) : j = 0 ∨ j = 1 ∨ j = 2 ∨ j = 3 ∨ j = 4 ∨ j = 5 ∨ j = 6 := by
  have := (List.getElem?_eq_some_iff.1 h).1
  omega
theorem ens_one {w : World} {B : Nat} {e : En} (h : Blk w B e.cs.toArray 26) (he : EnOk w e) : EnsAt w (some ⟨B, 0, none⟩) [e] :=
  ⟨rows_of_blk h fun i hi j v hv => by
    obtain rfl : i = 0 := by simp at hi; omega
    have hv' : e.cs[j]? = some v := hv
    rw [Nat.zero_mul, Nat.zero_add]
    simpa using hv',
   fun i hi => by
    obtain rfl : i = 0 := by simp at hi; omega
    exact he⟩
theorem ens_two {w : World} {B : Nat} {e f : En} (h : Blk w B (e.cs ++ f.cs).toArray 26) (he : EnOk w e) (hf : EnOk w f) : EnsAt w (some ⟨B, 0, none⟩) [e, f] :=
  ⟨rows_of_blk h fun i hi j v hv => by
    have hj : j < 7 := (List.getElem?_eq_some_iff.1 hv).1
    rcases (show i = 0 ∨ i = 1 by simp at hi; omega) with rfl | rfl
    · have hv' : e.cs[j]? = some v := hv
      rw [Nat.zero_mul, Nat.zero_add]
      simp only [List.getElem?_toArray]
      rw [List.getElem?_append_left (show j < e.cs.length from hj)]
      exact hv'
    · have hv' : f.cs[j]? = some v := hv
      simp only [List.getElem?_toArray]
      rw [List.getElem?_append_right (show e.cs.length ≤ 1 * 7 + j by show 7 ≤ _; omega), show 1 * 7 + j - e.cs.length = j by show 1 * 7 + j - 7 = j; omega]
      exact hv',
   fun i hi => by
    rcases (show i = 0 ∨ i = 1 by simp at hi; omega) with rfl | rfl
    · exact he
    · exact hf⟩


set_option maxHeartbeats 8000000 in
set_option maxRecDepth 100000 in
theorem turns_good (W : World) (hR : RulesAt W) (con day cur am h v : Int) (ham : -9223372036854775808 ≤ am ∧ am ≤ 9223372036854775807) (HB : Hid (flowErr con day cur am h v = 0)) :
    Calls Tryd.prog 5 #[.agg #[.int .i64 con, .int .i64 day, .int .i64 cur], .int .i64 am, .agg #[.int .i64 h, .int .i64 v]] W fun e W' => e = .returned (.bool true) ∧ Below W.heap.size W W' := by
  obtain ⟨f1, ⟨f2, f3⟩, ⟨f4, f5⟩, f6, f7, f8⟩ := flow_facts HB.out
  have F1 := Lib.hid f1
  have F6 := Lib.hid f6
  have F7 := Lib.hid f7
  have am1 : -9223372036854775807 ≤ am := by omega
  have am2 : am ≤ 9223372036854775807 := ham.2
  clear f1 f6 f7 f8
  have CE : Hid (checkE ⟨con, day, cur, 0, 0, -1⟩ ([⟨h, cur, am⟩, ⟨v, cur, -am⟩] : List Ln) = 0) := check_pair F1.out ⟨f2, f3⟩ ⟨f4, f5⟩ F7.out (by have := F7.out; omega) (by omega) (by omega) (by omega) (by omega)
  have CR : Hid (checkE ⟨con, day, cur, 0, 0, 7⟩ ([⟨h, cur, -am⟩, ⟨v, cur, - -am⟩] : List Ln) = 0) := check_pair F1.out ⟨f2, f3⟩ ⟨f4, f5⟩ (by have := F7.out; omega) (by have := F7.out; omega) (by omega) (by omega) (by omega) (by omega)
  have WE : Hid (AllWf ([⟨h, cur, am⟩, ⟨v, cur, -am⟩] : List Ln)) := fun l hl => by
    obtain ⟨⟨_, q1, q2⟩⟩ : Nonempty ((0:Int) = 0 ∧ belowB con 64 = true ∧ belowB cur 8 = true) := by
      have := F1.out
      unfold tagOk at this
      simp only [Bool.and_eq_true] at this
      exact ⟨rfl, this.1.1, this.2⟩
    unfold belowB at q2
    have q3 := of_decide_eq_true q2
    simp at hl
    rcases hl with rfl | rfl <;> (unfold Ln.wf; dsimp only; omega)
  have WR : Hid (AllWf ([⟨h, cur, -am⟩, ⟨v, cur, - -am⟩] : List Ln)) := fun l hl => by
    have q3 := WE.out ⟨h, cur, am⟩ (by simp)
    have q4 := WE.out ⟨v, cur, -am⟩ (by simp)
    unfold Ln.wf at q3 q4
    simp at hl
    rcases hl with rfl | rfl <;> (unfold Ln.wf; dsimp only at q3 q4 ⊢; omega)
  obtain ⟨wa, hwa⟩ : ∃ wa, W.alloc (.cells #[.int .i64 con, .int .i64 day, .int .i64 cur] 23) = wa := ⟨_, rfl⟩
  obtain ⟨wb, hwb⟩ : ∃ wb, wa.alloc (.cells #[.int .i64 h, .int .i64 v] 44) = wb := ⟨_, rfl⟩
  have k0 : Blk wa W.heap.size #[.int .i64 con, .int .i64 day, .int .i64 cur] 23 := by rw [← hwa]; exact Blk.new _ _ _
  have k1 : Blk wb wa.heap.size #[.int .i64 h, .int .i64 v] 44 := by rw [← hwb]; exact Blk.new _ _ _
  have ba : Below W.heap.size W wa := by rw [← hwa]; exact (Below.refl _ _).alloc (Nat.le_refl _) _
  have bb : Below wa.heap.size wa wb := by rw [← hwb]; exact (Below.refl _ _).alloc (Nat.le_refl _) _
  have K0 := Lib.hid (k0.after bb)
  have K1 := Lib.hid k1
  have hbw : Below W.heap.size W wb := ba.trans (bb.mono ba.size)
  have HR := Lib.hid (hR.after hbw)
  clear k0 k1 ba bb hR
  have a0 : wb.cell? ⟨W.heap.size, 0, none⟩ = some (.int .i64 con) := (K0.out.after (Below.refl _ _)).cell 0 rfl
  have a1 : wb.cell? ⟨W.heap.size, 1, none⟩ = some (.int .i64 day) := (K0.out.after (Below.refl _ _)).cell 1 rfl
  have a2 : wb.cell? ⟨W.heap.size, 2, none⟩ = some (.int .i64 cur) := (K0.out.after (Below.refl _ _)).cell 2 rfl
  have b0 : wb.cell? ⟨wa.heap.size, 0, none⟩ = some (.int .i64 h) := (K1.out.after (Below.refl _ _)).cell 0 rfl
  have b1 : wb.cell? ⟨wa.heap.size, 1, none⟩ = some (.int .i64 v) := (K1.out.after (Below.refl _ _)).cell 1 rfl
  have z0 : W.heap.size < wb.heap.size := (K0.out.after (Below.refl _ _)).lt
  have z1 : wa.heap.size < wb.heap.size := (K1.out.after (Below.refl _ _)).lt
  go_enter Tryd.func5, Tryd.ntmps5
  go_wp2_with fail
  clear hwa hwb a0 a1 a2 b0 b1 z0 z1
  with_reducible refine (flow_ok con day cur am h v _ ham).mono ?_
  rintro e w1 ⟨hb1, HF1⟩
  obtain ⟨_, c, rfl, hln1, hc1⟩ | ⟨h0, _⟩ := HF1
  rotate_left
  · exact absurd HB.out h0
  dsimp only [entV]
  obtain ⟨wc, hwc⟩ : ∃ wc, w1.alloc (.cells #[.int .i64 con, .int .i64 day, .int .i64 cur, .int .i64 0, .int .i64 0, .int .i64 (-1), .slice (some ⟨c, 0, none⟩) 2 2] 26) = wc := ⟨_, rfl⟩
  have k2 : Blk wc w1.heap.size (entCs ⟨con, day, cur, 0, 0, -1⟩ (some ⟨c, 0, none⟩) 2 2) 26 := by rw [← hwc]; exact Blk.new _ _ _
  have bc : Below w1.heap.size w1 wc := by rw [← hwc]; exact (Below.refl _ _).alloc (Nat.le_refl _) _
  have hbc : Below wb.heap.size wb wc := hb1.trans (bc.mono hb1.size)
  obtain ⟨c0, c1, c2, c3, c4, c5, c6⟩ := k2.cells7
  dsimp only at c0 c1 c2 c3 c4 c5 c6
  have K2 := Lib.hid k2
  have HL1 := Lib.hid (hln1.after bc)
  have HWC := Lib.hid hwc
  have hrv : Calls Tryd.prog 10 #[.agg #[.int .i64 con, .int .i64 day, .int .i64 cur, .int .i64 0, .int .i64 0, .int .i64 (-1), .slice (some ⟨c, 0, none⟩) 2 2], .int .i64 7] wc (RevEnd ⟨con, day, cur, 0, 0, -1⟩ ([⟨h, cur, am⟩, ⟨v, cur, -am⟩] : List Ln) 7 wc) := reverse_ok ⟨con, day, cur, 0, 0, -1⟩ 7 (some ⟨c, 0, none⟩) 2 [⟨h, cur, am⟩, ⟨v, cur, -am⟩] wc (HR.out.after hbc) HL1.out (by simp) WE.out (by simp)
  have HRV := Lib.hid hrv
  clear k2 bc hln1 hwc hrv
  go_wp2_with fail
  rw [HWC.out]
  clear HWC c0 c1 c2 c3 c4 c5 c6
  with_reducible refine HRV.out.mono ?_
  rintro e w2 ⟨hb2, HF2⟩
  obtain ⟨_, d, dc, rfl, hd0, hln2, hd2⟩ | ⟨h0, _⟩ := HF2
  rotate_left
  · exact absurd (by unfold revErr; rw [if_pos CE.out]; rfl) h0
  dsimp only [entV, List.length]
  obtain ⟨wd, hwd⟩ : ∃ wd, w2.alloc (.cells #[.int .i64 con, .int .i64 day, .int .i64 cur, .int .i64 0, .int .i64 0, .int .i64 7, .slice d 2 dc] 26) = wd := ⟨_, rfl⟩
  have k3 : Blk wd w2.heap.size (entCs ⟨con, day, cur, 0, 0, 7⟩ d 2 dc) 26 := by rw [← hwd]; exact Blk.new _ _ _
  have bd : Below w2.heap.size w2 wd := by rw [← hwd]; exact (Below.refl _ _).alloc (Nat.le_refl _) _
  have hcd : Below wc.heap.size wc wd := hb2.trans (bd.mono hb2.size)
  have hbd : Below wb.heap.size wb wd := hbc.trans (hcd.mono hbc.size)
  have KE := Lib.hid (K2.out.after hcd)
  have KR := Lib.hid k3
  have LE := Lib.hid (HL1.out.after hcd)
  have LR : Hid (LnAt wd d ([⟨h, cur, -am⟩, ⟨v, cur, - -am⟩] : List Ln)) := hln2.after bd
  have HD0 : Hid (d = none → ([⟨h, cur, -am⟩, ⟨v, cur, - -am⟩] : List Ln).length = 0 ∧ dc = 0) := hd0
  have HRD := Lib.hid (HR.out.after hbd)
  have K0D := Lib.hid (K0.out.after hbd)
  have K1D := Lib.hid (K1.out.after hbd)
  have HWD := Lib.hid hwd
  clear k3 bd hln2 hwd hd0 hd2
  have XCE : Hid (∀ w', Below wd.heap.size wd w' → Calls Tryd.prog 13 #[.agg #[.int .i64 con, .int .i64 day, .int .i64 cur, .int .i64 0, .int .i64 0, .int .i64 (-1), .slice (some ⟨c, 0, none⟩) 2 2]] w' fun e w'' => e = .returned (.int .i64 0) ∧ Below w'.heap.size w' w'') := fun w' hw' => by
    have := check_ok ⟨con, day, cur, 0, 0, -1⟩ (some ⟨c, 0, none⟩) 2 [⟨h, cur, am⟩, ⟨v, cur, -am⟩] w' (HRD.out.after hw') (LE.out.after hw') (by simp) WE.out
    rw [CE.out] at this
    exact this
  have XCR : Hid (∀ w', Below wd.heap.size wd w' → Calls Tryd.prog 13 #[.agg #[.int .i64 con, .int .i64 day, .int .i64 cur, .int .i64 0, .int .i64 0, .int .i64 7, .slice d 2 dc]] w' fun e w'' => e = .returned (.int .i64 0) ∧ Below w'.heap.size w' w'') := fun w' hw' => by
    have := check_ok ⟨con, day, cur, 0, 0, 7⟩ d dc [⟨h, cur, -am⟩, ⟨v, cur, - -am⟩] w' (HRD.out.after hw') (LR.out.after hw') (by simp) WR.out
    rw [CR.out] at this
    exact this
  have XM1 : Hid (∀ w', Below wd.heap.size wd w' → Calls Tryd.prog 19 #[.agg #[.int .i64 con, .int .i64 day, .int .i64 cur, .int .i64 0, .int .i64 0, .int .i64 (-1), .slice (some ⟨c, 0, none⟩) 2 2], .agg #[.int .i64 con, .int .i64 day, .int .i64 cur, .int .i64 0, .int .i64 0, .int .i64 7, .slice d 2 dc]] w' fun e w'' => e = .returned (.bool true) ∧ Below w'.heap.size w' w'') := fun w' hw' => by
    have := mirrors_ok ⟨con, day, cur, 0, 0, -1⟩ ⟨con, day, cur, 0, 0, 7⟩ (some ⟨c, 0, none⟩) d 2 dc [⟨h, cur, am⟩, ⟨v, cur, -am⟩] [⟨h, cur, -am⟩, ⟨v, cur, - -am⟩] w' rfl (LE.out.after hw') (LR.out.after hw') (by simp) (by simp) (by simp) (by intro l hl; simp at hl; rcases hl with rfl | rfl <;> (dsimp only; omega))
    rw [decide_eq_true (show List.map Ln.neg ([⟨h, cur, am⟩, ⟨v, cur, -am⟩] : List Ln) = [⟨h, cur, -am⟩, ⟨v, cur, - -am⟩] from rfl)] at this
    exact this
  have XM2 : Hid (∀ w', Below wd.heap.size wd w' → Calls Tryd.prog 19 #[.agg #[.int .i64 con, .int .i64 day, .int .i64 cur, .int .i64 0, .int .i64 0, .int .i64 7, .slice d 2 dc], .agg #[.int .i64 con, .int .i64 day, .int .i64 cur, .int .i64 0, .int .i64 0, .int .i64 (-1), .slice (some ⟨c, 0, none⟩) 2 2]] w' fun e w'' => e = .returned (.bool true) ∧ Below w'.heap.size w' w'') := fun w' hw' => by
    have := mirrors_ok ⟨con, day, cur, 0, 0, 7⟩ ⟨con, day, cur, 0, 0, -1⟩ d (some ⟨c, 0, none⟩) dc 2 [⟨h, cur, -am⟩, ⟨v, cur, - -am⟩] [⟨h, cur, am⟩, ⟨v, cur, -am⟩] w' rfl (LR.out.after hw') (LE.out.after hw') (by simp) (by simp) HD0.out (by intro l hl; simp at hl; rcases hl with rfl | rfl <;> (dsimp only; omega))
    rw [decide_eq_true (show List.map Ln.neg ([⟨h, cur, -am⟩, ⟨v, cur, - -am⟩] : List Ln) = [⟨h, cur, am⟩, ⟨v, cur, -am⟩] by simp [Ln.neg])] at this
    exact this
  have XM3 : Hid (∀ w', Below wd.heap.size wd w' → Calls Tryd.prog 19 #[.agg #[.int .i64 con, .int .i64 day, .int .i64 cur, .int .i64 0, .int .i64 0, .int .i64 (-1), .slice (some ⟨c, 0, none⟩) 2 2], .agg #[.int .i64 con, .int .i64 day, .int .i64 cur, .int .i64 0, .int .i64 0, .int .i64 (-1), .slice (some ⟨c, 0, none⟩) 2 2]] w' fun e w'' => e = .returned (.bool false) ∧ Below w'.heap.size w' w'') := fun w' hw' => by
    have := mirrors_ok ⟨con, day, cur, 0, 0, -1⟩ ⟨con, day, cur, 0, 0, -1⟩ (some ⟨c, 0, none⟩) (some ⟨c, 0, none⟩) 2 2 [⟨h, cur, am⟩, ⟨v, cur, -am⟩] [⟨h, cur, am⟩, ⟨v, cur, -am⟩] w' rfl (LE.out.after hw') (LE.out.after hw') (by simp) (by simp) (by simp) (by intro l hl; simp at hl; rcases hl with rfl | rfl <;> (dsimp only; omega))
    rw [decide_eq_false (show ¬ List.map Ln.neg ([⟨h, cur, am⟩, ⟨v, cur, -am⟩] : List Ln) = [⟨h, cur, am⟩, ⟨v, cur, -am⟩] by simp [Ln.neg]; intro q; have := F7.out; omega)] at this
    exact this
  have hbz : Below wd.heap.size wd wd := Below.refl _ _
  obtain ⟨c0, c1, c2, c3, c4, c5, c6⟩ := (K2.out.after hb2).cells7
  dsimp only at c0 c1 c2 c3 c4 c5 c6
  have zlt : w1.heap.size < w2.heap.size := (K2.out.after hb2).lt
  go_wp2_with fail
  rw [HWD.out]
  clear HWD c0 c1 c2 c3 c4 c5 c6 zlt
  with_reducible refine (XCE.out _ hbz).mono ?_
  rintro e w3 ⟨rfl, hb'⟩
  replace hbz := hbz.trans (hb'.mono hbz.size)
  clear hb'
  obtain ⟨c0, c1, c2, c3, c4, c5, c6⟩ := (KE.out.after (hbz)).cells7
  obtain ⟨d0, d1, d2, d3, d4, d5, d6⟩ := (KR.out.after (hbz)).cells7
  dsimp only at c0 c1 c2 c3 c4 c5 c6 d0 d1 d2 d3 d4 d5 d6
  go_wp2_with fail
  clear c0 c1 c2 c3 c4 c5 c6 d0 d1 d2 d3 d4 d5 d6
  with_reducible refine (XCR.out _ hbz).mono ?_
  rintro e w4 ⟨rfl, hb'⟩
  replace hbz := hbz.trans (hb'.mono hbz.size)
  clear hb'
  obtain ⟨c0, c1, c2, c3, c4, c5, c6⟩ := (KE.out.after (hbz)).cells7
  obtain ⟨d0, d1, d2, d3, d4, d5, d6⟩ := (KR.out.after (hbz)).cells7
  dsimp only at c0 c1 c2 c3 c4 c5 c6 d0 d1 d2 d3 d4 d5 d6
  go_wp2_with fail
  clear c0 c1 c2 c3 c4 c5 c6 d0 d1 d2 d3 d4 d5 d6
  with_reducible refine (XM1.out _ hbz).mono ?_
  rintro e w5 ⟨rfl, hb'⟩
  replace hbz := hbz.trans (hb'.mono hbz.size)
  clear hb'
  obtain ⟨c0, c1, c2, c3, c4, c5, c6⟩ := (KE.out.after (hbz)).cells7
  obtain ⟨d0, d1, d2, d3, d4, d5, d6⟩ := (KR.out.after (hbz)).cells7
  dsimp only at c0 c1 c2 c3 c4 c5 c6 d0 d1 d2 d3 d4 d5 d6
  go_wp2_with fail
  clear c0 c1 c2 c3 c4 c5 c6 d0 d1 d2 d3 d4 d5 d6
  with_reducible refine (XM2.out _ hbz).mono ?_
  rintro e w6 ⟨rfl, hb'⟩
  replace hbz := hbz.trans (hb'.mono hbz.size)
  clear hb'
  obtain ⟨c0, c1, c2, c3, c4, c5, c6⟩ := (KE.out.after (hbz)).cells7
  obtain ⟨d0, d1, d2, d3, d4, d5, d6⟩ := (KR.out.after (hbz)).cells7
  dsimp only at c0 c1 c2 c3 c4 c5 c6 d0 d1 d2 d3 d4 d5 d6
  go_wp2_with fail
  clear c0 c1 c2 c3 c4 c5 c6 d0 d1 d2 d3 d4 d5 d6
  with_reducible refine (XM3.out _ hbz).mono ?_
  rintro e w7 ⟨rfl, hb'⟩
  replace hbz := hbz.trans (hb'.mono hbz.size)
  clear hb'
  obtain ⟨c0, c1, c2, c3, c4, c5, c6⟩ := (KE.out.after (hbz)).cells7
  obtain ⟨d0, d1, d2, d3, d4, d5, d6⟩ := (KR.out.after (hbz)).cells7
  dsimp only at c0 c1 c2 c3 c4 c5 c6 d0 d1 d2 d3 d4 d5 d6
  go_wp2_with fail
  clear c0 c1 c2 c3 c4 c5 c6 d0 d1 d2 d3 d4 d5 d6
  have OKE : Hid (∀ w', Below wd.heap.size wd w' → EnOk w' ⟨⟨con, day, cur, 0, 0, -1⟩, some ⟨c, 0, none⟩, 2, [⟨h, cur, am⟩, ⟨v, cur, -am⟩]⟩) := fun w' hw' => ⟨LE.out.after hw', WE.out, by simp, by simp⟩
  have OKR : Hid (∀ w', Below wd.heap.size wd w' → EnOk w' ⟨⟨con, day, cur, 0, 0, 7⟩, d, dc, [⟨h, cur, -am⟩, ⟨v, cur, - -am⟩]⟩) := fun w' hw' => ⟨LR.out.after hw', WR.out, by simp, HD0.out⟩
  go_loopw [11, 12, 13, 14, 15, 16] (fun p _ _ _ _ _ wr => ∃ k : Nat, k ≤ 16 ∧ p = .int .i64 k ∧ Below wd.heap.size wd wr) (fun p _ _ _ _ _ _ => 16 - (intOf p).toNat)
  case atStart => exact ⟨0, by omega, rfl, hbz⟩
  case round =>
    obtain ⟨k, hk, rfl, hbl⟩ := hrel
    clear hbz
    have hbl0 : Below wb.heap.size wb wr := hbd.trans (hbl.mono hbd.size)
    by_cases hlt : k < 16
    · have hpb := pam_bd (h := h) (v := v) (party := (k : Int)) ⟨am1, am2⟩
      have XA : Hid (∀ w', Below wd.heap.size wd w' → Calls Tryd.prog 21 #[.agg #[.int .i64 con, .int .i64 day, .int .i64 cur, .int .i64 0, .int .i64 0, .int .i64 (-1), .slice (some ⟨c, 0, none⟩) 2 2], .int .i64 k] w' fun e w'' => e = .returned (.int .i64 (pam h v am k)) ∧ Below w'.heap.size w' w'') := fun w' hw' =>
        amount_eq ⟨con, day, cur, 0, 0, -1⟩ k (some ⟨c, 0, none⟩) 2 [⟨h, cur, am⟩, ⟨v, cur, -am⟩] w' (LE.out.after hw') (by simp) (amt_pair ⟨am1, am2⟩ F6.out)
      have XB : Hid (∀ w', Below wd.heap.size wd w' → Calls Tryd.prog 21 #[.agg #[.int .i64 con, .int .i64 day, .int .i64 cur, .int .i64 0, .int .i64 0, .int .i64 7, .slice d 2 dc], .int .i64 k] w' fun e w'' => e = .returned (.int .i64 (-pam h v am k)) ∧ Below w'.heap.size w' w'') := fun w' hw' =>
        amount_eq ⟨con, day, cur, 0, 0, 7⟩ k d dc [⟨h, cur, -am⟩, ⟨v, cur, - -am⟩] w' (LR.out.after hw') (by simp) ((amt_pair (am := -am) (by omega) F6.out).trans (pam_neg F6.out))
      have T2 : Hid (∀ w', Below wd.heap.size wd w' → Calls Tryd.prog 20 #[.agg #[.int .i64 con, .int .i64 day, .int .i64 cur], .int .i64 k, .slice (some ⟨w'.heap.size, 0, none⟩) 2 2] (w'.alloc (.cells #[.int .i64 con, .int .i64 day, .int .i64 cur, .int .i64 0, .int .i64 0, .int .i64 (-1), .slice (some ⟨c, 0, none⟩) 2 2, .int .i64 con, .int .i64 day, .int .i64 cur, .int .i64 0, .int .i64 0, .int .i64 7, .slice d 2 dc] 26)) fun e w'' => e = .returned (.tuple #[.int .i64 0, .int .i64 0]) ∧ Below (w'.alloc (.cells #[.int .i64 con, .int .i64 day, .int .i64 cur, .int .i64 0, .int .i64 0, .int .i64 (-1), .slice (some ⟨c, 0, none⟩) 2 2, .int .i64 con, .int .i64 day, .int .i64 cur, .int .i64 0, .int .i64 0, .int .i64 7, .slice d 2 dc] 26)).heap.size (w'.alloc (.cells #[.int .i64 con, .int .i64 day, .int .i64 cur, .int .i64 0, .int .i64 0, .int .i64 (-1), .slice (some ⟨c, 0, none⟩) 2 2, .int .i64 con, .int .i64 day, .int .i64 cur, .int .i64 0, .int .i64 0, .int .i64 7, .slice d 2 dc] 26)) w'') := fun w' hw' => by
        have ha := hw'.alloc hw'.size (.cells #[.int .i64 con, .int .i64 day, .int .i64 cur, .int .i64 0, .int .i64 0, .int .i64 (-1), .slice (some ⟨c, 0, none⟩) 2 2, .int .i64 con, .int .i64 day, .int .i64 cur, .int .i64 0, .int .i64 0, .int .i64 7, .slice d 2 dc] 26)
        have := total_ok ⟨con, day, cur⟩ k (some ⟨w'.heap.size, 0, none⟩) 2 [⟨⟨con, day, cur, 0, 0, -1⟩, some ⟨c, 0, none⟩, 2, [⟨h, cur, am⟩, ⟨v, cur, -am⟩]⟩, ⟨⟨con, day, cur, 0, 0, 7⟩, d, dc, [⟨h, cur, -am⟩, ⟨v, cur, - -am⟩]⟩] (w'.alloc (.cells #[.int .i64 con, .int .i64 day, .int .i64 cur, .int .i64 0, .int .i64 0, .int .i64 (-1), .slice (some ⟨c, 0, none⟩) 2 2, .int .i64 con, .int .i64 day, .int .i64 cur, .int .i64 0, .int .i64 0, .int .i64 7, .slice d 2 dc] 26)) (ens_two (Blk.new _ _ _) (OKE.out _ ha) (OKR.out _ ha)) (by simp)
        have hs : (totK ⟨con, day, cur⟩ k [⟨⟨con, day, cur, 0, 0, -1⟩, some ⟨c, 0, none⟩, 2, [⟨h, cur, am⟩, ⟨v, cur, -am⟩]⟩, ⟨⟨con, day, cur, 0, 0, 7⟩, d, dc, [⟨h, cur, -am⟩, ⟨v, cur, - -am⟩]⟩] [(⟨⟨con, day, cur, 0, 0, -1⟩, some ⟨c, 0, none⟩, 2, [⟨h, cur, am⟩, ⟨v, cur, -am⟩]⟩ : En), ⟨⟨con, day, cur, 0, 0, 7⟩, d, dc, [⟨h, cur, -am⟩, ⟨v, cur, - -am⟩]⟩].length).sum = 0 := by
          show ((([] : List Int) ++ totIn ⟨con, day, cur⟩ k ⟨⟨con, day, cur, 0, 0, -1⟩, some ⟨c, 0, none⟩, 2, [⟨h, cur, am⟩, ⟨v, cur, -am⟩]⟩ 2) ++ totIn ⟨con, day, cur⟩ k ⟨⟨con, day, cur, 0, 0, 7⟩, d, dc, [⟨h, cur, -am⟩, ⟨v, cur, - -am⟩]⟩ 2).sum = 0
          rw [sum_app, List.nil_append, tot_pair (con := con) (day := day) (cur := cur) (am := am) F6.out (some ⟨c, 0, none⟩) 2 ⟨con, day, cur, 0, 0, -1⟩ rfl, tot_pair (con := con) (day := day) (cur := cur) (am := -am) F6.out d dc ⟨con, day, cur, 0, 0, 7⟩ rfl, pam_neg F6.out]
          omega
        rw [hs] at this
        exact this
      have T1 : Hid (∀ w', Below wd.heap.size wd w' → Calls Tryd.prog 20 #[.agg #[.int .i64 con, .int .i64 day, .int .i64 cur], .int .i64 k, .slice (some ⟨w'.heap.size, 0, none⟩) 1 1] (w'.alloc (.cells #[.int .i64 con, .int .i64 day, .int .i64 cur, .int .i64 0, .int .i64 0, .int .i64 (-1), .slice (some ⟨c, 0, none⟩) 2 2] 26)) fun e w'' => e = .returned (.tuple #[.int .i64 (pam h v am k), .int .i64 0]) ∧ Below (w'.alloc (.cells #[.int .i64 con, .int .i64 day, .int .i64 cur, .int .i64 0, .int .i64 0, .int .i64 (-1), .slice (some ⟨c, 0, none⟩) 2 2] 26)).heap.size (w'.alloc (.cells #[.int .i64 con, .int .i64 day, .int .i64 cur, .int .i64 0, .int .i64 0, .int .i64 (-1), .slice (some ⟨c, 0, none⟩) 2 2] 26)) w'') := fun w' hw' => by
        have ha := hw'.alloc hw'.size (.cells #[.int .i64 con, .int .i64 day, .int .i64 cur, .int .i64 0, .int .i64 0, .int .i64 (-1), .slice (some ⟨c, 0, none⟩) 2 2] 26)
        have := total_ok ⟨con, day, cur⟩ k (some ⟨w'.heap.size, 0, none⟩) 1 [⟨⟨con, day, cur, 0, 0, -1⟩, some ⟨c, 0, none⟩, 2, [⟨h, cur, am⟩, ⟨v, cur, -am⟩]⟩] (w'.alloc (.cells #[.int .i64 con, .int .i64 day, .int .i64 cur, .int .i64 0, .int .i64 0, .int .i64 (-1), .slice (some ⟨c, 0, none⟩) 2 2] 26)) (ens_one (Blk.new _ _ _) (OKE.out _ ha)) (by simp)
        have hs : (totK ⟨con, day, cur⟩ k [⟨⟨con, day, cur, 0, 0, -1⟩, some ⟨c, 0, none⟩, 2, [⟨h, cur, am⟩, ⟨v, cur, -am⟩]⟩] [(⟨⟨con, day, cur, 0, 0, -1⟩, some ⟨c, 0, none⟩, 2, [⟨h, cur, am⟩, ⟨v, cur, -am⟩]⟩ : En)].length).sum = pam h v am k := by
          show (([] : List Int) ++ totIn ⟨con, day, cur⟩ k ⟨⟨con, day, cur, 0, 0, -1⟩, some ⟨c, 0, none⟩, 2, [⟨h, cur, am⟩, ⟨v, cur, -am⟩]⟩ 2).sum = _
          rw [List.nil_append, tot_pair (con := con) (day := day) (cur := cur) (am := am) F6.out (some ⟨c, 0, none⟩) 2 ⟨con, day, cur, 0, 0, -1⟩ rfl]
        rw [hs, sumA_of (b := true) (by unfold fitsI; exact decide_eq_true (by omega))] at this
        exact this
      have hcase : Hid ((((k : Int) == h) = true ∧ ((k : Int) == v) = false ∧ pam h v am k = am) ∨ (((k : Int) == h) = false ∧ ((k : Int) == v) = true ∧ pam h v am k = -am) ∨ (((k : Int) == h) = false ∧ ((k : Int) == v) = false ∧ pam h v am k = 0)) := by
        unfold pam
        by_cases q1 : (k : Int) = h
        · exact .inl ⟨beq_iff_eq.2 q1, beq_eq_false_iff_ne.2 (fun q2 => F6.out (q1.symm.trans q2)), if_pos q1⟩
        · by_cases q2 : (k : Int) = v
          · exact .inr (.inl ⟨beq_eq_false_iff_ne.2 q1, beq_iff_eq.2 q2, by rw [if_neg q1, if_pos q2]⟩)
          · exact .inr (.inr ⟨beq_eq_false_iff_ne.2 q1, beq_eq_false_iff_ne.2 q2, by rw [if_neg q1, if_neg q2]⟩)
      obtain ⟨P, hP⟩ : ∃ P, pam h v am k = P := ⟨_, rfl⟩
      rw [hP] at XA XB T1 hcase hpb
      obtain ⟨p1, p2⟩ := hpb
      have hsum : IntKind.i64.wrap (P + -P) = 0 := by rw [Int.add_right_neg]; rfl
      clear hP
      have a0 : wr.cell? ⟨W.heap.size, 0, none⟩ = some (.int .i64 con) := (K0D.out.after hbl).cell 0 rfl
      have a1 : wr.cell? ⟨W.heap.size, 1, none⟩ = some (.int .i64 day) := (K0D.out.after hbl).cell 1 rfl
      have a2 : wr.cell? ⟨W.heap.size, 2, none⟩ = some (.int .i64 cur) := (K0D.out.after hbl).cell 2 rfl
      obtain ⟨c0, c1, c2, c3, c4, c5, c6⟩ := (KE.out.after (hbl)).cells7
      obtain ⟨d0, d1, d2, d3, d4, d5, d6⟩ := (KR.out.after (hbl)).cells7
      dsimp only at c0 c1 c2 c3 c4 c5 c6 d0 d1 d2 d3 d4 d5 d6
      go_wp2_with fail
      clear c0 c1 c2 c3 c4 c5 c6 d0 d1 d2 d3 d4 d5 d6
      clear a0 a1 a2
      with_reducible refine (T2.out _ hbl).mono ?_
      rintro e w8 ⟨rfl, hb8⟩
      replace hb8 := (hbl.alloc hbl.size _).trans (hb8.mono (hbl.alloc hbl.size _).size)
      have a0 : w8.cell? ⟨W.heap.size, 0, none⟩ = some (.int .i64 con) := (K0D.out.after hb8).cell 0 rfl
      have a1 : w8.cell? ⟨W.heap.size, 1, none⟩ = some (.int .i64 day) := (K0D.out.after hb8).cell 1 rfl
      have a2 : w8.cell? ⟨W.heap.size, 2, none⟩ = some (.int .i64 cur) := (K0D.out.after hb8).cell 2 rfl
      obtain ⟨c0, c1, c2, c3, c4, c5, c6⟩ := (KE.out.after (hb8)).cells7
      obtain ⟨d0, d1, d2, d3, d4, d5, d6⟩ := (KR.out.after (hb8)).cells7
      dsimp only at c0 c1 c2 c3 c4 c5 c6 d0 d1 d2 d3 d4 d5 d6
      go_wp2_with fail
      clear c0 c1 c2 c3 c4 c5 c6 d0 d1 d2 d3 d4 d5 d6
      clear a0 a1 a2
      with_reducible refine (T1.out _ hb8).mono ?_
      rintro e w9 ⟨rfl, hb9⟩
      replace hb9 := (hb8.alloc hb8.size _).trans (hb9.mono (hb8.alloc hb8.size _).size)
      go_wp2_with fail
      have HS : Hid (∀ w', Below w9.heap.size w9 w' → w'.cell? ⟨w1.heap.size, 0, none⟩ = some (.int .i64 con) ∧ w'.cell? ⟨w1.heap.size, 1, none⟩ = some (.int .i64 day) ∧ w'.cell? ⟨w1.heap.size, 2, none⟩ = some (.int .i64 cur) ∧ w'.cell? ⟨w1.heap.size, 3, none⟩ = some (.int .i64 0) ∧ w'.cell? ⟨w1.heap.size, 4, none⟩ = some (.int .i64 0) ∧ w'.cell? ⟨w1.heap.size, 5, none⟩ = some (.int .i64 (-1)) ∧ w'.cell? ⟨w1.heap.size, 6, none⟩ = some (.slice (some ⟨c, 0, none⟩) 2 2) ∧ w'.cell? ⟨w2.heap.size, 0, none⟩ = some (.int .i64 con) ∧ w'.cell? ⟨w2.heap.size, 1, none⟩ = some (.int .i64 day) ∧ w'.cell? ⟨w2.heap.size, 2, none⟩ = some (.int .i64 cur) ∧ w'.cell? ⟨w2.heap.size, 3, none⟩ = some (.int .i64 0) ∧ w'.cell? ⟨w2.heap.size, 4, none⟩ = some (.int .i64 0) ∧ w'.cell? ⟨w2.heap.size, 5, none⟩ = some (.int .i64 7) ∧ w'.cell? ⟨w2.heap.size, 6, none⟩ = some (.slice d 2 dc)) := fun w' hw' => by
        obtain ⟨c0, c1, c2, c3, c4, c5, c6⟩ := ((KE.out.after hb9).after hw').cells7
        obtain ⟨d0, d1, d2, d3, d4, d5, d6⟩ := ((KR.out.after hb9).after hw').cells7
        exact ⟨c0, c1, c2, c3, c4, c5, c6, d0, d1, d2, d3, d4, d5, d6⟩
      have hdr : Below w9.heap.size w9 w9.drew := (Below.refl _ _).drew
      have up : Hid (∀ w', Below w9.heap.size w9 w' → Below wd.heap.size wd w') := fun w' hw' => hb9.trans (hw'.mono hb9.size)
      go_region_held3 (fun w' => w'.cell? ⟨w1.heap.size, 0, none⟩ = some (.int .i64 con) ∧ w'.cell? ⟨w1.heap.size, 1, none⟩ = some (.int .i64 day) ∧ w'.cell? ⟨w1.heap.size, 2, none⟩ = some (.int .i64 cur) ∧ w'.cell? ⟨w1.heap.size, 3, none⟩ = some (.int .i64 0) ∧ w'.cell? ⟨w1.heap.size, 4, none⟩ = some (.int .i64 0) ∧ w'.cell? ⟨w1.heap.size, 5, none⟩ = some (.int .i64 (-1)) ∧ w'.cell? ⟨w1.heap.size, 6, none⟩ = some (.slice (some ⟨c, 0, none⟩) 2 2) ∧ w'.cell? ⟨w2.heap.size, 0, none⟩ = some (.int .i64 con) ∧ w'.cell? ⟨w2.heap.size, 1, none⟩ = some (.int .i64 day) ∧ w'.cell? ⟨w2.heap.size, 2, none⟩ = some (.int .i64 cur) ∧ w'.cell? ⟨w2.heap.size, 3, none⟩ = some (.int .i64 0) ∧ w'.cell? ⟨w2.heap.size, 4, none⟩ = some (.int .i64 0) ∧ w'.cell? ⟨w2.heap.size, 5, none⟩ = some (.int .i64 7) ∧ w'.cell? ⟨w2.heap.size, 6, none⟩ = some (.slice d 2 dc))
        (first | with_reducible exact HS.out _ hbZ | with_reducible exact HS.out _ hbY | with_reducible exact HS.out _ hbX | with_reducible exact HS.out _ hdr)
        (first
          | (go_at_call 21; (with_reducible refine (XB.out _ (up.out _ hbY)).mono ?_); rintro e w12 ⟨rfl, hb12⟩; have hbZ := hbY.trans (hb12.mono hbY.size))
          | (go_at_call 21; (with_reducible refine (XA.out _ (up.out _ hbX)).mono ?_); rintro e w11 ⟨rfl, hb11⟩; have hbY := hbX.trans (hb11.mono hbX.size))
          | (go_at_call 21; (with_reducible refine (XA.out _ (up.out _ hdr)).mono ?_); rintro e w10 ⟨rfl, hb10⟩; have hbX := hdr.trans (hb10.mono hdr.size)))
      have hbF := up.out _ hbZ
      have b0 : w12.cell? ⟨wa.heap.size, 0, none⟩ = some (.int .i64 h) := (K1D.out.after hbF).cell 0 rfl
      have b1 : w12.cell? ⟨wa.heap.size, 1, none⟩ = some (.int .i64 v) := (K1D.out.after hbF).cell 1 rfl
      have HC := Lib.hid hcase.out
      clear hsum hcase
      rcases HC.out with ⟨q1, q2, rfl⟩ | ⟨q1, q2, rfl⟩ | ⟨q1, q2, rfl⟩
      all_goals
        clear HC
        go_wp2_with fail
        clear q1 q2 b0 b1
        go_roundw
        case rel => exact ⟨k + 1, by omega, by go_num, hbF⟩
        case measure => simp [intOf]; omega
    · obtain rfl : k = 16 := by omega
      have hrv : Calls Tryd.prog 10 #[.agg #[.int .i64 con, .int .i64 day, .int .i64 cur, .int .i64 0, .int .i64 0, .int .i64 7, .slice d 2 dc], .int .i64 8] wr (RevEnd ⟨con, day, cur, 0, 0, 7⟩ [⟨h, cur, -am⟩, ⟨v, cur, - -am⟩] 8 wr) := reverse_ok ⟨con, day, cur, 0, 0, 7⟩ 8 d dc [⟨h, cur, -am⟩, ⟨v, cur, - -am⟩] wr (HRD.out.after hbl) (LR.out.after hbl) (by simp) WR.out HD0.out
      have hre : revErr ⟨con, day, cur, 0, 0, 7⟩ [⟨h, cur, -am⟩, ⟨v, cur, - -am⟩] 8 = 24 := by unfold revErr; rw [if_pos CR.out]; rfl
      have HRV := Lib.hid hrv
      have HRE := Lib.hid hre
      clear hrv hre
      obtain ⟨c0, c1, c2, c3, c4, c5, c6⟩ := (KE.out.after (hbl)).cells7
      obtain ⟨d0, d1, d2, d3, d4, d5, d6⟩ := (KR.out.after (hbl)).cells7
      dsimp only at c0 c1 c2 c3 c4 c5 c6 d0 d1 d2 d3 d4 d5 d6
      go_wp2_with fail
      clear c0 c1 c2 c3 c4 c5 c6 d0 d1 d2 d3 d4 d5 d6
      with_reducible refine HRV.out.mono ?_
      rintro e w8 ⟨hb8, HF3⟩
      obtain ⟨h0, _⟩ | ⟨_, rfl⟩ := HF3
      · exact absurd (HRE.out.symm.trans h0) (by decide)
      rw [HRE.out]
      dsimp only [entV, zero6]
      have hb8' := hbl0.trans (hb8.mono hbl0.size)
      have hal : Below w8.heap.size w8 (w8.alloc (.cells #[.int .i64 0, .int .i64 0, .int .i64 0, .int .i64 0, .int .i64 0, .int .i64 0, .slice none 0 0] 26)) := (Below.refl _ _).alloc (Nat.le_refl _) _
      have hb8a := hb8'.trans (hal.mono hb8'.size)
      go_wp2_with fail
      with_reducible refine (awake_ok _ (HR.out.after hb8a)).mono ?_
      rintro e w9 ⟨rfl, hb9⟩
      go_wp2_with fail
      go_ret
      exact ⟨rfl, hbw.trans ((hb8a.trans (hb9.mono hb8a.size)).mono hbw.size)⟩

theorem open_EntryTurns {H : Type} (enc : TypeId × Value → H) (base : Nat) (W : World) (hR : RulesAt W) (v0 : Value) (d0 : DataW H) (p0 : List MemPlace) (h0 : DataW.Trod enc Tryd.prog W 0 (fun _ => true) true 23 v0 d0 p0) (ok0 : Value.okWide Tryd.prog W .any base 23 v0)
    (am : Int) (ham : -9223372036854775808 ≤ am ∧ am ≤ 9223372036854775807)
    (v2 : Value) (d2 : DataW H) (p2 : List MemPlace) (h2 : DataW.Trod enc Tryd.prog W 0 (fun _ => true) true 44 v2 d2 p2) (ok2 : Value.okWide Tryd.prog W .any base 44 v2) :
    Calls Tryd.prog 5 #[v0, .int .i64 am, v2] W fun e W' => e = .returned (.bool true) ∧ Below W.heap.size W W' := by
  obtain ⟨xs, hx, rfl, _⟩ := open_ints_agg (n := 3) (by kernel_rfl) (by kernel_rfl) h0 ok0
  obtain ⟨ys, hy, rfl, _⟩ := open_ints_agg (n := 2) (by kernel_rfl) (by kernel_rfl) h2 ok2
  obtain ⟨a, b, c, rfl⟩ := list3 hx
  obtain ⟨h, v, rfl⟩ := list2 hy
  by_cases hE : flowErr a b c am h v = 0
  · exact turns_good W hR a b c am h v ham hE
  · exact turns_bad W hR a b c am h v ham hE

end Go.Proofs.YtklbgcpafbjekaaDoor
