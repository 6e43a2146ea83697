/- The statement EntryChecks: its walk. -/
import Derived.Test.YtklbgcpafbjekaaDoorEntR
namespace Go.Proofs.YtklbgcpafbjekaaDoor
open Go.RowKit
set_option linter.unusedVariables false
set_option linter.unusedSimpArgs false

/-- A box that holds an entry, and what its cells read as in every later world. -/
def Cells7 (w : World) (B : Nat) (s : Six) (a : Option Addr) (n cap : Nat) : Prop :=
  w.cell? ⟨B, 0, none⟩ = some (.int .i64 s.con) ∧ w.cell? ⟨B, 1, none⟩ = some (.int .i64 s.day) ∧ w.cell? ⟨B, 2, none⟩ = some (.int .i64 s.cur) ∧ w.cell? ⟨B, 3, none⟩ = some (.int .i64 s.seq) ∧ w.cell? ⟨B, 4, none⟩ = some (.int .i64 s.per) ∧ w.cell? ⟨B, 5, none⟩ = some (.int .i64 s.ref) ∧ w.cell? ⟨B, 6, none⟩ = some (.slice a n cap)
theorem Blk.cells7 {w : World} {B : Nat} {s : Six} {a : Option Addr} {n cap : Nat} {T : TypeId} (h : Blk w B (entCs s a n cap) T) : Cells7 w B s a n cap :=
  ⟨h.cell 0 rfl, h.cell 1 rfl, h.cell 2 rfl, h.cell 3 rfl, h.cell 4 rfl, h.cell 5 rfl, h.cell 6 rfl⟩

theorem two_draws {w : World} : Below w.heap.size w w.drew := (Below.refl _ _).drew


set_option maxHeartbeats 4000000 in
theorem checks_many (W : World) (hR : RulesAt W) (s : Six) (a : Option Addr) (cap : Nat) (ls : List Ln) (no : Int) (hx : LnAt W a ls) (hw : AllWf ls) (hnil : a = none → ls.length = 0 ∧ cap = 0) (hbig : ls.length ≤ 9223372036854775807) (hl : ¬ ls.length ≤ 20) :
    Calls Tryd.prog 3 #[entV s a ls.length cap, .int .i64 no] W fun e W' => e = .returned (.bool true) ∧ Below W.heap.size W W' := by
  have HL20 := Lib.hid hl
  have HX := Lib.hid hx
  have HWF := Lib.hid hw
  have HNIL := Lib.hid hnil
  obtain ⟨con, day, cur, seq, per, ref⟩ := s
  obtain ⟨wa, hwa⟩ : ∃ wa, W.alloc (.cells (entCs ⟨con, day, cur, seq, per, ref⟩ a ls.length cap) 26) = wa := ⟨_, rfl⟩
  have k0 : Blk wa W.heap.size (entCs ⟨con, day, cur, seq, per, ref⟩ a ls.length cap) 26 := by rw [← hwa]; exact Blk.new _ _ _
  have ba : Below W.heap.size W wa := by rw [← hwa]; exact (Below.refl _ _).alloc (Nat.le_refl _) _
  have K0 := Lib.hid k0
  have HR := Lib.hid (hR.after ba)
  have HXA := Lib.hid (hx.after ba)
  have hfew : ∀ w', Calls Tryd.prog 8 #[.agg #[.int .i64 con, .int .i64 day, .int .i64 cur, .int .i64 seq, .int .i64 per, .int .i64 ref, .slice a ls.length cap]] w' fun e w'' => e = .returned (.bool (decide (ls.length ≤ 20))) ∧ Below w'.heap.size w' w'' := fun w' => few_ok ⟨con, day, cur, seq, per, ref⟩ a cap ls.length w' hbig
  rw [decide_eq_false hl] at hfew
  have HFEW := Lib.hid hfew
  dsimp only [entCs] at hwa
  clear k0 hR hx hw hnil hl hfew
  show Calls Tryd.prog 3 #[.agg #[.int .i64 con, .int .i64 day, .int .i64 cur, .int .i64 seq, .int .i64 per, .int .i64 ref, .slice a ls.length cap], .int .i64 no] W _
  obtain ⟨a0, a1, a2, a3, a4, a5, a6⟩ := (K0.out.after (Below.refl _ _)).cells7
  dsimp only at a0 a1 a2 a3 a4 a5 a6
  go_enter Tryd.func3, Tryd.ntmps3
  go_wp2_with fail
  clear hwa
  clear a0 a1 a2 a3 a4 a5 a6
  with_reducible refine (HFEW.out _).mono ?_
  rintro e w1 ⟨rfl, hb1⟩
  go_wp2_with fail
  with_reducible refine (awake_ok _ (HR.out.after hb1)).mono ?_
  rintro e w2 ⟨rfl, hb2⟩
  go_wp2_with fail
  go_ret
  exact ⟨rfl, ba.trans ((hb1.trans (hb2.mono hb1.size)).mono ba.size)⟩



set_option maxHeartbeats 4000000 in
theorem checks_bad (W : World) (hR : RulesAt W) (s : Six) (a : Option Addr) (cap : Nat) (ls : List Ln) (no : Int) (hx : LnAt W a ls) (hw : AllWf ls) (hnil : a = none → ls.length = 0 ∧ cap = 0) (hbig : ls.length ≤ 9223372036854775807) (hl : ls.length ≤ 20) (HB : Hid (revErr s ls no ≠ 0)) :
    Calls Tryd.prog 3 #[entV s a ls.length cap, .int .i64 no] W fun e W' => e = .returned (.bool true) ∧ Below W.heap.size W W' := by
  have HL20 := Lib.hid hl
  have HX := Lib.hid hx
  have HWF := Lib.hid hw
  have HNIL := Lib.hid hnil
  obtain ⟨con, day, cur, seq, per, ref⟩ := s
  obtain ⟨wa, hwa⟩ : ∃ wa, W.alloc (.cells (entCs ⟨con, day, cur, seq, per, ref⟩ a ls.length cap) 26) = wa := ⟨_, rfl⟩
  have k0 : Blk wa W.heap.size (entCs ⟨con, day, cur, seq, per, ref⟩ a ls.length cap) 26 := by rw [← hwa]; exact Blk.new _ _ _
  have ba : Below W.heap.size W wa := by rw [← hwa]; exact (Below.refl _ _).alloc (Nat.le_refl _) _
  have K0 := Lib.hid k0
  have HR := Lib.hid (hR.after ba)
  have HXA := Lib.hid (hx.after ba)
  have hfew : ∀ w', Calls Tryd.prog 8 #[.agg #[.int .i64 con, .int .i64 day, .int .i64 cur, .int .i64 seq, .int .i64 per, .int .i64 ref, .slice a ls.length cap]] w' fun e w'' => e = .returned (.bool (decide (ls.length ≤ 20))) ∧ Below w'.heap.size w' w'' := fun w' => few_ok ⟨con, day, cur, seq, per, ref⟩ a cap ls.length w' hbig
  rw [decide_eq_true hl] at hfew
  have HFEW := Lib.hid hfew
  dsimp only [entCs] at hwa
  clear k0 hR hx hw hnil hl hfew
  show Calls Tryd.prog 3 #[.agg #[.int .i64 con, .int .i64 day, .int .i64 cur, .int .i64 seq, .int .i64 per, .int .i64 ref, .slice a ls.length cap], .int .i64 no] W _
  obtain ⟨a0, a1, a2, a3, a4, a5, a6⟩ := (K0.out.after (Below.refl _ _)).cells7
  dsimp only at a0 a1 a2 a3 a4 a5 a6
  go_enter Tryd.func3, Tryd.ntmps3
  go_wp2_with fail
  clear hwa
  clear a0 a1 a2 a3 a4 a5 a6
  with_reducible refine (HFEW.out _).mono ?_
  rintro e w1 ⟨rfl, hb1⟩
  have RV : Hid (∀ w', Below wa.heap.size wa w' → Calls Tryd.prog 10 #[.agg #[.int .i64 con, .int .i64 day, .int .i64 cur, .int .i64 seq, .int .i64 per, .int .i64 ref, .slice a ls.length cap], .int .i64 no] w' (RevEnd ⟨con, day, cur, seq, per, ref⟩ ls no w')) := fun w' hw' => reverse_ok ⟨con, day, cur, seq, per, ref⟩ no a cap ls w' (HR.out.after hw') (HXA.out.after hw') (by have := HL20.out; omega) HWF.out HNIL.out
  have PL : Hid (∀ w', Below wa.heap.size wa w' → Calls Tryd.prog 12 #[.agg #[.int .i64 con, .int .i64 day, .int .i64 cur, .int .i64 seq, .int .i64 per, .int .i64 ref, .slice a ls.length cap]] w' (PlainEnd ⟨con, day, cur, seq, per, ref⟩ ls w')) := fun w' hw' => plain_ok ⟨con, day, cur, seq, per, ref⟩ a cap ls w' (HXA.out.after hw') (by have := HL20.out; omega)
  have RR : Hid (∀ w' c cc, LnAt w' c ls → Calls Tryd.prog 11 #[.agg #[.int .i64 con, .int .i64 day, .int .i64 cur, .int .i64 seq, .int .i64 per, .int .i64 ref, .slice c ls.length cc], .int .i64 no] w' (RevEnd ⟨con, day, cur, seq, per, ref⟩ ls no w')) := fun w' c cc hc => refreverse_ok ⟨con, day, cur, seq, per, ref⟩ no c cc ls w' hc (by have := HL20.out; omega) HWF.out
  obtain ⟨CE, hCE⟩ : ∃ CE, checkE ⟨con, day, cur, seq, per, ref⟩ ls = CE := ⟨_, rfl⟩
  have CK : Hid (∀ w', Below wa.heap.size wa w' → Calls Tryd.prog 13 #[.agg #[.int .i64 con, .int .i64 day, .int .i64 cur, .int .i64 seq, .int .i64 per, .int .i64 ref, .slice a ls.length cap]] w' fun e w'' => e = .returned (.int .i64 CE) ∧ Below w'.heap.size w' w'') := fun w' hw' => hCE ▸ check_ok ⟨con, day, cur, seq, per, ref⟩ a cap ls w' (HR.out.after hw') (HXA.out.after hw') (by have := HL20.out; omega) HWF.out
  have RC : Hid (∀ w' c cc, LnAt w' c ls → Calls Tryd.prog 14 #[.agg #[.int .i64 con, .int .i64 day, .int .i64 cur, .int .i64 seq, .int .i64 per, .int .i64 ref, .slice c ls.length cc]] w' fun e w'' => e = .returned (.int .i64 CE) ∧ Below w'.heap.size w' w'') := fun w' c cc hc => hCE ▸ refcheck_ok ⟨con, day, cur, seq, per, ref⟩ c cc ls w' hc (by have := HL20.out; omega) HWF.out
  clear hCE
  obtain ⟨a0, a1, a2, a3, a4, a5, a6⟩ := (K0.out.after hb1).cells7
  dsimp only at a0 a1 a2 a3 a4 a5 a6
  go_wp2_with fail
  clear a0 a1 a2 a3 a4 a5 a6
  with_reducible refine (RV.out _ hb1).mono ?_
  rintro e w2 ⟨hb2, HF1⟩
  replace hb2 := hb1.trans (hb2.mono hb1.size)
  obtain ⟨h0, _⟩ | ⟨_, rfl⟩ := HF1
  · exact absurd h0 HB.out
  obtain ⟨E, hE⟩ : ∃ E, revErr ⟨con, day, cur, seq, per, ref⟩ ls no = E := ⟨_, rfl⟩
  rw [hE] at HB ⊢
  have HEE := Lib.hid hE
  clear hE
  have b1' : (E != 0) = true := by rw [bne_iff_ne]; exact HB.out
  obtain ⟨wc, hwc⟩ : ∃ wc, w2.alloc (.cells (entCs zero6 none 0 0) 26) = wc := ⟨_, rfl⟩
  have k2 : Blk wc w2.heap.size (entCs zero6 none 0 0) 26 := by rw [← hwc]; exact Blk.new _ _ _
  have bc : Below w2.heap.size w2 wc := by rw [← hwc]; exact (Below.refl _ _).alloc (Nat.le_refl _) _
  have hbc : Below wa.heap.size wa wc := hb2.trans (bc.mono hb2.size)
  have K2 := Lib.hid k2
  clear k2
  dsimp only [entV, entCs, zero6] at hwc ⊢
  obtain ⟨a0, a1, a2, a3, a4, a5, a6⟩ := (K0.out.after hb2).cells7
  dsimp only at a0 a1 a2 a3 a4 a5 a6
  have z0 : W.heap.size < w2.heap.size := (K0.out.after hb2).lt
  have HWC := Lib.hid hwc
  clear hwc
  go_wp2_with fail
  rw [HWC.out]
  clear HWC z0
  clear a0 a1 a2 a3 a4 a5 a6
  with_reducible refine (PL.out _ hbc).mono ?_
  rintro e w3 ⟨c, cc, rfl, _, hc, hb3, _⟩
  dsimp only [entV]
  have HC := Lib.hid hc
  clear hc
  go_wp2_with fail
  with_reducible refine (RR.out _ _ _ HC.out).mono ?_
  rintro e w4 ⟨hb4, HF2⟩
  have hb34 : Below wc.heap.size wc w4 := hb3.trans (hb4.mono hb3.size)
  obtain ⟨h0, _⟩ | ⟨_, rfl⟩ := HF2
  · exact absurd (HEE.out.symm.trans h0) HB.out
  rw [HEE.out]
  obtain ⟨we, hwe⟩ : ∃ we, w4.alloc (.cells (entCs zero6 none 0 0) 35) = we := ⟨_, rfl⟩
  have hce : Below wc.heap.size wc we := by rw [← hwe]; exact hb34.alloc hb34.size _
  have HWE := Lib.hid hwe
  clear hwe
  dsimp only [entV, entCs, zero6] at HWE ⊢
  go_wp2_with fail
  rw [HWE.out]
  clear HWE
  have hbe : Below wa.heap.size wa we := hbc.trans (hce.mono hbc.size)
  have HS : Hid (∀ w', Below we.heap.size we w' → w'.cell? ⟨W.heap.size, 0, none⟩ = some (.int .i64 con) ∧ w'.cell? ⟨W.heap.size, 1, none⟩ = some (.int .i64 day) ∧ w'.cell? ⟨W.heap.size, 2, none⟩ = some (.int .i64 cur) ∧ w'.cell? ⟨W.heap.size, 3, none⟩ = some (.int .i64 seq) ∧ w'.cell? ⟨W.heap.size, 4, none⟩ = some (.int .i64 per) ∧ w'.cell? ⟨W.heap.size, 5, none⟩ = some (.int .i64 ref) ∧ w'.cell? ⟨W.heap.size, 6, none⟩ = some (.slice a ls.length cap)) := fun w' hw' =>
    ((K0.out.after hbe).after hw').cells7
  have hdr : Below we.heap.size we we.drew := (Below.refl _ _).drew
  have hda := hbe.trans (hdr.mono hbe.size)
  go_region_held3 (fun w' => w'.cell? ⟨W.heap.size, 0, none⟩ = some (.int .i64 con) ∧ w'.cell? ⟨W.heap.size, 1, none⟩ = some (.int .i64 day) ∧ w'.cell? ⟨W.heap.size, 2, none⟩ = some (.int .i64 cur) ∧ w'.cell? ⟨W.heap.size, 3, none⟩ = some (.int .i64 seq) ∧ w'.cell? ⟨W.heap.size, 4, none⟩ = some (.int .i64 per) ∧ w'.cell? ⟨W.heap.size, 5, none⟩ = some (.int .i64 ref) ∧ w'.cell? ⟨W.heap.size, 6, none⟩ = some (.slice a ls.length cap))
    (first | with_reducible exact HS.out _ hbZ | with_reducible exact HS.out _ hbY | with_reducible exact HS.out _ hbX | with_reducible exact HS.out _ hdr)
    (first
      | (go_at_call 13; (with_reducible refine (CK.out _ hda).mono ?_); rintro e w5 ⟨rfl, hb5⟩; have hbX := hdr.trans (hb5.mono hdr.size); have hdX := hbe.trans (hbX.mono hbe.size))
      | (go_at_call 12; (with_reducible refine (PL.out _ hdX).mono ?_); rintro e w6 ⟨g, gc, rfl, _, hg, hb6, _⟩; have hbY := hbX.trans (hb6.mono hbX.size); dsimp only [entV])
      | (go_at_call 14; (with_reducible refine (RC.out _ _ _ hg).mono ?_); rintro e w7 ⟨rfl, hb7⟩; have hbZ := hbY.trans (hb7.mono hbY.size)))
  have hez : Below wa.heap.size wa w7 := hbe.trans (hbZ.mono hbe.size)
  obtain ⟨c0, c1, c2, c3, c4, c5, c6⟩ := (K2.out.after (hce.trans (hbZ.mono hce.size))).cells7
  dsimp only [zero6] at c0 c1 c2 c3 c4 c5 c6
  have hsz := same_zero
  dsimp only [entV, zero6] at hsz
  have HSZ := Lib.hid hsz
  clear hsz
  go_wp2_with fail
  with_reducible refine (HSZ.out _).mono ?_
  rintro e w8 ⟨rfl, hb8⟩
  have hb8' := hez.trans (hb8.mono hez.size)
  go_wp2_with fail
  with_reducible refine (awake_ok _ (HR.out.after hb8')).mono ?_
  rintro e w9 ⟨rfl, hb9⟩
  go_wp2_with fail
  go_ret
  exact ⟨rfl, ba.trans ((hb8'.trans (hb9.mono hb8'.size)).mono ba.size)⟩

theorem plain_neg (s : Six) (a : Option Addr) (cap : Nat) (ls : List Ln) (w : World) (hx : LnAt w a (ls.map Ln.neg)) (hl : ls.length ≤ 1000) :
    Calls Tryd.prog 12 #[entV s a ls.length cap] w fun e w' => ∃ g gc, e = .returned (entV s g ls.length gc) ∧ LnAt w' g (ls.map Ln.neg) ∧ Below w.heap.size w w' := by
  have h := plain_ok s a cap (ls.map Ln.neg) w hx (by rw [List.length_map]; exact hl)
  rw [List.length_map] at h
  exact h.mono fun e w' ⟨g, gc, he, _, hg, hb, _⟩ => ⟨g, gc, by rw [he, List.length_map], hg, hb⟩
theorem alike_neg (s : Six) (a b : Option Addr) (ca cb : Nat) (ls : List Ln) (w : World) (hx : LnAt w a (ls.map Ln.neg)) (hy : LnAt w b (ls.map Ln.neg)) (hl : ls.length ≤ 1000) :
    Calls Tryd.prog 16 #[entV s a ls.length ca, entV s b ls.length cb] w fun e w' => e = .returned (.bool true) ∧ Below w.heap.size w w' := by
  have h := alike_ok s s a b ca cb (ls.map Ln.neg) (ls.map Ln.neg) w hx hy (by rw [List.length_map]; exact hl) (by rw [List.length_map]; exact hl)
  rw [List.length_map, decide_eq_true ⟨rfl, rfl⟩] at h
  exact h

set_option maxHeartbeats 4000000 in
theorem checks_good (W : World) (hR : RulesAt W) (s : Six) (a : Option Addr) (cap : Nat) (ls : List Ln) (no : Int) (hx : LnAt W a ls) (hw : AllWf ls) (hnil : a = none → ls.length = 0 ∧ cap = 0) (hbig : ls.length ≤ 9223372036854775807) (hl : ls.length ≤ 20) (HB : Hid (revErr s ls no = 0)) :
    Calls Tryd.prog 3 #[entV s a ls.length cap, .int .i64 no] W fun e W' => e = .returned (.bool true) ∧ Below W.heap.size W W' := by
  have HL20 := Lib.hid hl
  have HX := Lib.hid hx
  have HWF := Lib.hid hw
  have HNIL := Lib.hid hnil
  obtain ⟨con, day, cur, seq, per, ref⟩ := s
  obtain ⟨wa, hwa⟩ : ∃ wa, W.alloc (.cells (entCs ⟨con, day, cur, seq, per, ref⟩ a ls.length cap) 26) = wa := ⟨_, rfl⟩
  have k0 : Blk wa W.heap.size (entCs ⟨con, day, cur, seq, per, ref⟩ a ls.length cap) 26 := by rw [← hwa]; exact Blk.new _ _ _
  have ba : Below W.heap.size W wa := by rw [← hwa]; exact (Below.refl _ _).alloc (Nat.le_refl _) _
  have K0 := Lib.hid k0
  have HR := Lib.hid (hR.after ba)
  have HXA := Lib.hid (hx.after ba)
  have hfew : ∀ w', Calls Tryd.prog 8 #[.agg #[.int .i64 con, .int .i64 day, .int .i64 cur, .int .i64 seq, .int .i64 per, .int .i64 ref, .slice a ls.length cap]] w' fun e w'' => e = .returned (.bool (decide (ls.length ≤ 20))) ∧ Below w'.heap.size w' w'' := fun w' => few_ok ⟨con, day, cur, seq, per, ref⟩ a cap ls.length w' hbig
  rw [decide_eq_true hl] at hfew
  have HFEW := Lib.hid hfew
  dsimp only [entCs] at hwa
  clear k0 hR hx hw hnil hl hfew
  show Calls Tryd.prog 3 #[.agg #[.int .i64 con, .int .i64 day, .int .i64 cur, .int .i64 seq, .int .i64 per, .int .i64 ref, .slice a ls.length cap], .int .i64 no] W _
  obtain ⟨a0, a1, a2, a3, a4, a5, a6⟩ := (K0.out.after (Below.refl _ _)).cells7
  dsimp only at a0 a1 a2 a3 a4 a5 a6
  go_enter Tryd.func3, Tryd.ntmps3
  go_wp2_with fail
  clear hwa
  clear a0 a1 a2 a3 a4 a5 a6
  with_reducible refine (HFEW.out _).mono ?_
  rintro e w1 ⟨rfl, hb1⟩
  have RV : Hid (∀ w', Below wa.heap.size wa w' → Calls Tryd.prog 10 #[.agg #[.int .i64 con, .int .i64 day, .int .i64 cur, .int .i64 seq, .int .i64 per, .int .i64 ref, .slice a ls.length cap], .int .i64 no] w' (RevEnd ⟨con, day, cur, seq, per, ref⟩ ls no w')) := fun w' hw' => reverse_ok ⟨con, day, cur, seq, per, ref⟩ no a cap ls w' (HR.out.after hw') (HXA.out.after hw') (by have := HL20.out; omega) HWF.out HNIL.out
  have PL : Hid (∀ w', Below wa.heap.size wa w' → Calls Tryd.prog 12 #[.agg #[.int .i64 con, .int .i64 day, .int .i64 cur, .int .i64 seq, .int .i64 per, .int .i64 ref, .slice a ls.length cap]] w' (PlainEnd ⟨con, day, cur, seq, per, ref⟩ ls w')) := fun w' hw' => plain_ok ⟨con, day, cur, seq, per, ref⟩ a cap ls w' (HXA.out.after hw') (by have := HL20.out; omega)
  have RR : Hid (∀ w' c cc, LnAt w' c ls → Calls Tryd.prog 11 #[.agg #[.int .i64 con, .int .i64 day, .int .i64 cur, .int .i64 seq, .int .i64 per, .int .i64 ref, .slice c ls.length cc], .int .i64 no] w' (RevEnd ⟨con, day, cur, seq, per, ref⟩ ls no w')) := fun w' c cc hc => refreverse_ok ⟨con, day, cur, seq, per, ref⟩ no c cc ls w' hc (by have := HL20.out; omega) HWF.out
  obtain ⟨CE, hCE⟩ : ∃ CE, checkE ⟨con, day, cur, seq, per, ref⟩ ls = CE := ⟨_, rfl⟩
  have CK : Hid (∀ w', Below wa.heap.size wa w' → Calls Tryd.prog 13 #[.agg #[.int .i64 con, .int .i64 day, .int .i64 cur, .int .i64 seq, .int .i64 per, .int .i64 ref, .slice a ls.length cap]] w' fun e w'' => e = .returned (.int .i64 CE) ∧ Below w'.heap.size w' w'') := fun w' hw' => hCE ▸ check_ok ⟨con, day, cur, seq, per, ref⟩ a cap ls w' (HR.out.after hw') (HXA.out.after hw') (by have := HL20.out; omega) HWF.out
  have RC : Hid (∀ w' c cc, LnAt w' c ls → Calls Tryd.prog 14 #[.agg #[.int .i64 con, .int .i64 day, .int .i64 cur, .int .i64 seq, .int .i64 per, .int .i64 ref, .slice c ls.length cc]] w' fun e w'' => e = .returned (.int .i64 CE) ∧ Below w'.heap.size w' w'') := fun w' c cc hc => hCE ▸ refcheck_ok ⟨con, day, cur, seq, per, ref⟩ c cc ls w' hc (by have := HL20.out; omega) HWF.out
  clear hCE
  obtain ⟨a0, a1, a2, a3, a4, a5, a6⟩ := (K0.out.after hb1).cells7
  dsimp only at a0 a1 a2 a3 a4 a5 a6
  go_wp2_with fail
  clear a0 a1 a2 a3 a4 a5 a6
  with_reducible refine (RV.out _ hb1).mono ?_
  rintro e w2 ⟨hb2, HF1⟩
  replace hb2 := hb1.trans (hb2.mono hb1.size)
  obtain ⟨_, r, rc, rfl, _, hr, _⟩ | ⟨h0, _⟩ := HF1
  rotate_left
  · exact absurd HB.out h0
  obtain ⟨wc, hwc⟩ : ∃ wc, w2.alloc (.cells (entCs ⟨con, day, cur, 0, 0, no⟩ r ls.length rc) 26) = wc := ⟨_, rfl⟩
  have k2 : Blk wc w2.heap.size (entCs ⟨con, day, cur, 0, 0, no⟩ r ls.length rc) 26 := by rw [← hwc]; exact Blk.new _ _ _
  have bc : Below w2.heap.size w2 wc := by rw [← hwc]; exact (Below.refl _ _).alloc (Nat.le_refl _) _
  have hbc : Below wa.heap.size wa wc := hb2.trans (bc.mono hb2.size)
  have K2 := Lib.hid k2
  have HLR := Lib.hid (hr.after bc)
  clear k2 hr
  dsimp only [entV, entCs] at hwc ⊢
  obtain ⟨a0, a1, a2, a3, a4, a5, a6⟩ := (K0.out.after hb2).cells7
  dsimp only at a0 a1 a2 a3 a4 a5 a6
  have z0 : W.heap.size < w2.heap.size := (K0.out.after hb2).lt
  have HWC := Lib.hid hwc
  clear hwc
  go_wp2_with fail
  rw [HWC.out]
  clear HWC z0
  clear a0 a1 a2 a3 a4 a5 a6
  with_reducible refine (PL.out _ hbc).mono ?_
  rintro e w3 ⟨c, cc, rfl, _, hc, hb3, _⟩
  dsimp only [entV]
  have HC := Lib.hid hc
  clear hc
  go_wp2_with fail
  with_reducible refine (RR.out _ _ _ HC.out).mono ?_
  rintro e w4 ⟨hb4, HF2⟩
  have hb34 : Below wc.heap.size wc w4 := hb3.trans (hb4.mono hb3.size)
  obtain ⟨_, x, xc, rfl, _, hx2, _⟩ | ⟨h0, _⟩ := HF2
  rotate_left
  · exact absurd HB.out h0
  obtain ⟨we, hwe⟩ : ∃ we, w4.alloc (.cells (entCs ⟨con, day, cur, 0, 0, no⟩ x ls.length xc) 35) = we := ⟨_, rfl⟩
  have k4 : Blk we w4.heap.size (entCs ⟨con, day, cur, 0, 0, no⟩ x ls.length xc) 35 := by rw [← hwe]; exact Blk.new _ _ _
  have be : Below w4.heap.size w4 we := by rw [← hwe]; exact (Below.refl _ _).alloc (Nat.le_refl _) _
  have hce : Below wc.heap.size wc we := hb34.trans (be.mono hb34.size)
  have HWE := Lib.hid hwe
  have K4 := Lib.hid k4
  have HLX := Lib.hid (hx2.after be)
  have HLR2 := Lib.hid (HLR.out.after hce)
  have K2E := Lib.hid (K2.out.after hce)
  clear hwe k4 hx2 be
  dsimp only [entV, entCs] at HWE ⊢
  go_wp2_with fail
  rw [HWE.out]
  clear HWE
  have hbe : Below wa.heap.size wa we := hbc.trans (hce.mono hbc.size)
  have HS : Hid (∀ w', Below we.heap.size we w' → w'.cell? ⟨W.heap.size, 0, none⟩ = some (.int .i64 con) ∧ w'.cell? ⟨W.heap.size, 1, none⟩ = some (.int .i64 day) ∧ w'.cell? ⟨W.heap.size, 2, none⟩ = some (.int .i64 cur) ∧ w'.cell? ⟨W.heap.size, 3, none⟩ = some (.int .i64 seq) ∧ w'.cell? ⟨W.heap.size, 4, none⟩ = some (.int .i64 per) ∧ w'.cell? ⟨W.heap.size, 5, none⟩ = some (.int .i64 ref) ∧ w'.cell? ⟨W.heap.size, 6, none⟩ = some (.slice a ls.length cap)) := fun w' hw' =>
    ((K0.out.after hbe).after hw').cells7
  have hdr : Below we.heap.size we we.drew := (Below.refl _ _).drew
  have hda := hbe.trans (hdr.mono hbe.size)
  go_region_held3 (fun w' => w'.cell? ⟨W.heap.size, 0, none⟩ = some (.int .i64 con) ∧ w'.cell? ⟨W.heap.size, 1, none⟩ = some (.int .i64 day) ∧ w'.cell? ⟨W.heap.size, 2, none⟩ = some (.int .i64 cur) ∧ w'.cell? ⟨W.heap.size, 3, none⟩ = some (.int .i64 seq) ∧ w'.cell? ⟨W.heap.size, 4, none⟩ = some (.int .i64 per) ∧ w'.cell? ⟨W.heap.size, 5, none⟩ = some (.int .i64 ref) ∧ w'.cell? ⟨W.heap.size, 6, none⟩ = some (.slice a ls.length cap))
    (first | with_reducible exact HS.out _ hbZ | with_reducible exact HS.out _ hbY | with_reducible exact HS.out _ hbX | with_reducible exact HS.out _ hdr)
    (first
      | (go_at_call 13; (with_reducible refine (CK.out _ hda).mono ?_); rintro e w5 ⟨rfl, hb5⟩; have hbX := hdr.trans (hb5.mono hdr.size); have hdX := hbe.trans (hbX.mono hbe.size))
      | (go_at_call 12; (with_reducible refine (PL.out _ hdX).mono ?_); rintro e w6 ⟨g, gc, rfl, _, hg, hb6, _⟩; have hbY := hbX.trans (hb6.mono hbX.size); dsimp only [entV])
      | (go_at_call 14; (with_reducible refine (RC.out _ _ _ hg).mono ?_); rintro e w7 ⟨rfl, hb7⟩; have hbZ := hbY.trans (hb7.mono hbY.size)))
  have hez : Below wa.heap.size wa w7 := hbe.trans (hbZ.mono hbe.size)
  go_wp2_with fail
  have HS2 : Hid (∀ w', Below w7.heap.size w7 w' → w'.cell? ⟨w2.heap.size, 0, none⟩ = some (.int .i64 con) ∧ w'.cell? ⟨w2.heap.size, 1, none⟩ = some (.int .i64 day) ∧ w'.cell? ⟨w2.heap.size, 2, none⟩ = some (.int .i64 cur) ∧ w'.cell? ⟨w2.heap.size, 3, none⟩ = some (.int .i64 0) ∧ w'.cell? ⟨w2.heap.size, 4, none⟩ = some (.int .i64 0) ∧ w'.cell? ⟨w2.heap.size, 5, none⟩ = some (.int .i64 no) ∧ w'.cell? ⟨w2.heap.size, 6, none⟩ = some (.slice r ls.length rc)
      ∧ w'.cell? ⟨w4.heap.size, 0, none⟩ = some (.int .i64 con) ∧ w'.cell? ⟨w4.heap.size, 1, none⟩ = some (.int .i64 day) ∧ w'.cell? ⟨w4.heap.size, 2, none⟩ = some (.int .i64 cur) ∧ w'.cell? ⟨w4.heap.size, 3, none⟩ = some (.int .i64 0) ∧ w'.cell? ⟨w4.heap.size, 4, none⟩ = some (.int .i64 0) ∧ w'.cell? ⟨w4.heap.size, 5, none⟩ = some (.int .i64 no) ∧ w'.cell? ⟨w4.heap.size, 6, none⟩ = some (.slice x ls.length xc)) := fun w' hw' => by
    obtain ⟨q0, q1, q2, q3, q4, q5, q6⟩ := ((K2E.out.after hbZ).after hw').cells7
    obtain ⟨r0, r1, r2, r3, r4, r5, r6⟩ := ((K4.out.after hbZ).after hw').cells7
    exact ⟨q0, q1, q2, q3, q4, q5, q6, r0, r1, r2, r3, r4, r5, r6⟩
  have hd2 : Below w7.heap.size w7 w7.drew := (Below.refl _ _).drew
  have PN : Hid (∀ w', Below w7.heap.size w7 w' → Calls Tryd.prog 12 #[.agg #[.int .i64 con, .int .i64 day, .int .i64 cur, .int .i64 0, .int .i64 0, .int .i64 no, .slice r ls.length rc]] w' fun e w'' => ∃ g gc, e = .returned (.agg #[.int .i64 con, .int .i64 day, .int .i64 cur, .int .i64 0, .int .i64 0, .int .i64 no, .slice g ls.length gc]) ∧ LnAt w'' g (ls.map Ln.neg) ∧ Below w'.heap.size w' w'') := fun w' hw' =>
    plain_neg ⟨con, day, cur, 0, 0, no⟩ r rc ls w' ((HLR2.out.after hbZ).after hw') (by have := HL20.out; omega)
  have AN : Hid (∀ w' g gc, Below w7.heap.size w7 w' → LnAt w' g (ls.map Ln.neg) → Calls Tryd.prog 16 #[.agg #[.int .i64 con, .int .i64 day, .int .i64 cur, .int .i64 0, .int .i64 0, .int .i64 no, .slice g ls.length gc], .agg #[.int .i64 con, .int .i64 day, .int .i64 cur, .int .i64 0, .int .i64 0, .int .i64 no, .slice x ls.length xc]] w' fun e w'' => e = .returned (.bool true) ∧ Below w'.heap.size w' w'') := fun w' g gc hw' hg =>
    alike_neg ⟨con, day, cur, 0, 0, no⟩ g x gc xc ls w' hg ((HLX.out.after hbZ).after hw') (by have := HL20.out; omega)
  go_region_held3 (fun w' => w'.cell? ⟨w2.heap.size, 0, none⟩ = some (.int .i64 con) ∧ w'.cell? ⟨w2.heap.size, 1, none⟩ = some (.int .i64 day) ∧ w'.cell? ⟨w2.heap.size, 2, none⟩ = some (.int .i64 cur) ∧ w'.cell? ⟨w2.heap.size, 3, none⟩ = some (.int .i64 0) ∧ w'.cell? ⟨w2.heap.size, 4, none⟩ = some (.int .i64 0) ∧ w'.cell? ⟨w2.heap.size, 5, none⟩ = some (.int .i64 no) ∧ w'.cell? ⟨w2.heap.size, 6, none⟩ = some (.slice r ls.length rc)
      ∧ w'.cell? ⟨w4.heap.size, 0, none⟩ = some (.int .i64 con) ∧ w'.cell? ⟨w4.heap.size, 1, none⟩ = some (.int .i64 day) ∧ w'.cell? ⟨w4.heap.size, 2, none⟩ = some (.int .i64 cur) ∧ w'.cell? ⟨w4.heap.size, 3, none⟩ = some (.int .i64 0) ∧ w'.cell? ⟨w4.heap.size, 4, none⟩ = some (.int .i64 0) ∧ w'.cell? ⟨w4.heap.size, 5, none⟩ = some (.int .i64 no) ∧ w'.cell? ⟨w4.heap.size, 6, none⟩ = some (.slice x ls.length xc))
    (first | with_reducible exact HS2.out _ hbR | with_reducible exact HS2.out _ hbQ | with_reducible exact HS2.out _ hbP | with_reducible exact HS2.out _ hd2)
    (first
      | (go_at_call 12; (with_reducible refine (PN.out _ hd2).mono ?_); rintro e w8 ⟨g2, gc2, rfl, hg2, hb8⟩; have hbP := hd2.trans (hb8.mono hd2.size))
      | (go_at_call 16; (with_reducible refine (AN.out _ _ _ hbP hg2).mono ?_); rintro e w9 ⟨rfl, hb9⟩; have hbQ := hbP.trans (hb9.mono hbP.size))
      | (go_at_call 9; (with_reducible refine (awake_ok _ (HR.out.after (hez.trans (hbQ.mono hez.size)))).mono ?_); rintro e w10 ⟨rfl, hb10⟩; have hbR := hbQ.trans (hb10.mono hbQ.size)))
  go_wp2_with fail
  go_ret
  have hfin := hez.trans (hbR.mono hez.size)
  exact ⟨rfl, ba.trans (hfin.mono ba.size)⟩

theorem walk_EntryChecks (W : World) (hR : RulesAt W) (s : Six) (a : Option Addr) (cap : Nat) (ls : List Ln) (no : Int) (hx : LnAt W a ls) (hw : AllWf ls) (hnil : a = none → ls.length = 0 ∧ cap = 0) (hbig : ls.length ≤ 9223372036854775807) :
    Calls Tryd.prog 3 #[entV s a ls.length cap, .int .i64 no] W fun e W' => e = .returned (.bool true) ∧ Below W.heap.size W W' := by
  by_cases hl : ls.length ≤ 20
  · by_cases hE : revErr s ls no = 0
    · exact checks_good W hR s a cap ls no hx hw hnil hbig hl hE
    · exact checks_bad W hR s a cap ls no hx hw hnil hbig hl hE
  · exact checks_many W hR s a cap ls no hx hw hnil hbig hl

end Go.Proofs.YtklbgcpafbjekaaDoor
