/- The document's answer for entries: Reverse. -/
import Derived.Test.YtklbgcpafbjekaaDoorEntL
namespace Go.Proofs.YtklbgcpafbjekaaDoor
open Go.RowKit
set_option linter.unusedVariables false
set_option linter.unusedSimpArgs false


theorem neg_row {ls : List Ln} {k : Nat} (hk : k < ls.length) {lp lc la : Int} (h : Ln.at ls k = ⟨lp, lc, la⟩) : lnRow (ls.map Ln.neg) k = [.int .i64 lp, .int .i64 lc, .int .i64 (-la)] := by
  have e : Ln.at (ls.map Ln.neg) k = (Ln.at ls k).neg := by
    unfold Ln.at
    rw [List.getD_eq_getElem?_getD, List.getElem?_map, List.getD_eq_getElem?_getD, List.getElem?_eq_getElem hk]
    rfl
  unfold lnRow
  rw [e, h]
  rfl

theorem at_mem {ls : List Ln} {k : Nat} (hk : k < ls.length) : Ln.at ls k ∈ ls := by
  unfold Ln.at
  rw [List.getD_eq_getElem?_getD, List.getElem?_eq_getElem hk]
  exact List.getElem_mem hk

/-- What stands of Reverse at the head of its loop. -/
def RevRel (s t : Six) (a : Option Addr) (cap0 : Nat) (ls : List Ln) (w wa wb wc : World) (k : Nat) (wr : World) : Prop :=
  ∃ c cap, wr.ownsRow wc.heap.size 60 3 (.slice c k cap) k (flatF (lnRow (ls.map Ln.neg)) k) ∧ Blk wr wb.heap.size (entCs t c k cap) 35
    ∧ Blk wr w.heap.size (entCs s a ls.length cap0) 35 ∧ Blk wr wa.heap.size (entCs zero6 none 0 0) 35 ∧ Below w.heap.size w wr ∧ wc.heap.size ≤ wr.heap.size

theorem RevRel.kept {s t : Six} {a c : Option Addr} {cap cap0 : Nat} {ls : List Ln} {w wa wb wc : World} {k : Nat} {wr wd w1 : World} {v : Value} (hown : wr.ownsRow wc.heap.size 60 3 v k (flatF (lnRow (ls.map Ln.neg)) k)) (h2 : Blk wr wb.heap.size (entCs t c k cap) 35)
    (h0 : Blk wr w.heap.size (entCs s a ls.length cap0) 35) (h1 : Blk wr wa.heap.size (entCs zero6 none 0 0) 35) (hbl : Below w.heap.size w wr) (hz : w.heap.size ≤ wc.heap.size) (hd : Below wr.heap.size wr wd) (hg : wd.grownBy w1 v.ownBlock) :
    Blk w1 wb.heap.size (entCs t c k cap) 35 ∧ Blk w1 w.heap.size (entCs s a ls.length cap0) 35 ∧ Blk w1 wa.heap.size (entCs zero6 none 0 0) 35 ∧ Below w.heap.size w w1 ∧ wr.heap.size ≤ w1.heap.size :=
  ⟨(h2.after hd).grown hg (h2.own_ne hown (by decide)), (h0.after hd).grown hg (h0.own_ne hown (by decide)), (h1.after hd).grown hg (h1.own_ne hown (by decide)),
   (hbl.trans (hd.mono hbl.size)).grown hg (Nat.le_trans hbl.size hd.size) (fun q e => by have := (hown.lt q e).1; omega), Nat.le_trans hd.size hg.size⟩


set_option maxHeartbeats 2000000 in
theorem refrev_1 (con day cur seq per ref : Int) (no : Int) (a : Option Addr) (cap0 : Nat) (ls : List Ln) (w : World) (hx : LnAt w a ls) (hl : ls.length ≤ 1000) (hw : AllWf ls) (HC : Hid (checkE ⟨con, day, cur, seq, per, ref⟩ ls ≠ 0)) :
    Calls Tryd.prog 11 #[entV ⟨con, day, cur, seq, per, ref⟩ a ls.length cap0, .int .i64 no] w (RevEnd ⟨con, day, cur, seq, per, ref⟩ ls no w) := by
  have HE : Hid (revErr ⟨con, day, cur, seq, per, ref⟩ ls no = if checkE ⟨con, day, cur, seq, per, ref⟩ ls = 0 then (if ref = -1 then (if no < 0 then 10 else 0) else 24) else checkE ⟨con, day, cur, seq, per, ref⟩ ls) := rfl
  obtain ⟨wa, hwa⟩ : ∃ wa, w.alloc (.cells (entCs ⟨con, day, cur, seq, per, ref⟩ a ls.length cap0) 35) = wa := ⟨_, rfl⟩
  obtain ⟨wb, hwb⟩ : ∃ wb, wa.alloc (.cells (entCs zero6 none 0 0) 35) = wb := ⟨_, rfl⟩
  have k0 : Blk wa w.heap.size (entCs ⟨con, day, cur, seq, per, ref⟩ a ls.length cap0) 35 := by rw [← hwa]; exact Blk.new _ _ _
  have k1 : Blk wb wa.heap.size (entCs zero6 none 0 0) 35 := by rw [← hwb]; exact Blk.new _ _ _
  have ba : Below w.heap.size w wa := by rw [← hwa]; exact (Below.refl _ _).alloc (Nat.le_refl _) _
  have bb : Below wa.heap.size wa wb := by rw [← hwb]; exact (Below.refl _ _).alloc (Nat.le_refl _) _
  have za : wa.heap.size = w.heap.size + 1 := by rw [← hwa]; simp
  have zb : wb.heap.size = wa.heap.size + 1 := by rw [← hwb]; simp
  have K0 := Lib.hid (k0.after bb)
  have K1 := Lib.hid k1
  have hbw : Below w.heap.size w wb := ba.trans (bb.mono ba.size)
  have HZ : Hid (wa.heap.size = w.heap.size + 1 ∧ wb.heap.size = wa.heap.size + 1) := ⟨za, zb⟩
  have HX := Lib.hid hx
  have HWF := Lib.hid hw
  simp only [entCs, zero6] at hwa hwb
  have q0 : wb.cell? ⟨w.heap.size, 0, none⟩ = some (.int .i64 con) := K0.out.cell 0 rfl
  have q1 : wb.cell? ⟨w.heap.size, 1, none⟩ = some (.int .i64 day) := K0.out.cell 1 rfl
  have q2 : wb.cell? ⟨w.heap.size, 2, none⟩ = some (.int .i64 cur) := K0.out.cell 2 rfl
  have q3 : wb.cell? ⟨w.heap.size, 3, none⟩ = some (.int .i64 seq) := K0.out.cell 3 rfl
  have q4 : wb.cell? ⟨w.heap.size, 4, none⟩ = some (.int .i64 per) := K0.out.cell 4 rfl
  have q5 : wb.cell? ⟨w.heap.size, 5, none⟩ = some (.int .i64 ref) := K0.out.cell 5 rfl
  have q6 : wb.cell? ⟨w.heap.size, 6, none⟩ = some (.slice a ls.length cap0) := K0.out.cell 6 rfl
  clear za zb k0 k1 ba bb hx hw
  show Calls Tryd.prog _ #[.agg #[.int .i64 con, .int .i64 day, .int .i64 cur, .int .i64 seq, .int .i64 per, .int .i64 ref, .slice a ls.length cap0], .int .i64 no] w _
  go_enter Tryd.func11, Tryd.ntmps11
  go_wp2_with fail
  clear hwa hwb q0 q1 q2 q3 q4 q5 q6
  have hck := refcheck_ok ⟨con, day, cur, seq, per, ref⟩ a cap0 ls wb (HX.out.after hbw) (by omega) HWF.out
  unfold entV at hck
  obtain ⟨E, hE⟩ : ∃ E, checkE ⟨con, day, cur, seq, per, ref⟩ ls = E := ⟨_, rfl⟩
  rw [hE] at HE HC hck
  have HEE := Lib.hid hE
  have HK := Lib.hid hck
  clear hE hck
  with_reducible refine HK.out.mono ?_
  rintro e w1 ⟨rfl, hb1⟩
  have hb1w : Below w.heap.size w w1 := hbw.trans (hb1.mono hbw.size)
  have q5 : w1.cell? ⟨w.heap.size, 5, none⟩ = some (.int .i64 ref) := (K0.out.after hb1).cell 5 rfl
  obtain ⟨⟨o0, o1, o2, o3, o4, o5, o6⟩, f0, f1, f2, f3, f4, f5, f6⟩ := OBox.of_blk (K1.out.after hb1)
  have b1 : (E != 0) = true := by rw [bne_iff_ne]; exact HC.out
  go_wp2_with fail
  (have he : revErr ⟨con, day, cur, seq, per, ref⟩ ls no = E := by rw [HE.out]; rw [if_neg HC.out]
   refine bodyPost_ret (v := .tuple #[entV zero6 none 0 0, .int .i64 E]) ?_ rfl ?_
   · simp [results, Tryd.results11, go_sem, o0, o1, o2, o3, o4, o5, o6, entV, zero6]
   · exact ⟨below_set7 hb1w (by have := HZ.out; omega) _ _ _ _ _ _ _, .inr ⟨by rw [he]; exact HC.out, by rw [he]⟩⟩)
set_option maxHeartbeats 2000000 in
theorem refrev_2 (con day cur seq per ref : Int) (no : Int) (a : Option Addr) (cap0 : Nat) (ls : List Ln) (w : World) (hx : LnAt w a ls) (hl : ls.length ≤ 1000) (hw : AllWf ls) (HC : Hid (checkE ⟨con, day, cur, seq, per, ref⟩ ls = 0)) (hr : ¬ ref = -1) :
    Calls Tryd.prog 11 #[entV ⟨con, day, cur, seq, per, ref⟩ a ls.length cap0, .int .i64 no] w (RevEnd ⟨con, day, cur, seq, per, ref⟩ ls no w) := by
  have HR := Lib.hid hr
  have b2 : (ref != -1) = true := by rw [bne_iff_ne]; exact hr
  clear hr
  have HE : Hid (revErr ⟨con, day, cur, seq, per, ref⟩ ls no = if checkE ⟨con, day, cur, seq, per, ref⟩ ls = 0 then (if ref = -1 then (if no < 0 then 10 else 0) else 24) else checkE ⟨con, day, cur, seq, per, ref⟩ ls) := rfl
  obtain ⟨wa, hwa⟩ : ∃ wa, w.alloc (.cells (entCs ⟨con, day, cur, seq, per, ref⟩ a ls.length cap0) 35) = wa := ⟨_, rfl⟩
  obtain ⟨wb, hwb⟩ : ∃ wb, wa.alloc (.cells (entCs zero6 none 0 0) 35) = wb := ⟨_, rfl⟩
  have k0 : Blk wa w.heap.size (entCs ⟨con, day, cur, seq, per, ref⟩ a ls.length cap0) 35 := by rw [← hwa]; exact Blk.new _ _ _
  have k1 : Blk wb wa.heap.size (entCs zero6 none 0 0) 35 := by rw [← hwb]; exact Blk.new _ _ _
  have ba : Below w.heap.size w wa := by rw [← hwa]; exact (Below.refl _ _).alloc (Nat.le_refl _) _
  have bb : Below wa.heap.size wa wb := by rw [← hwb]; exact (Below.refl _ _).alloc (Nat.le_refl _) _
  have za : wa.heap.size = w.heap.size + 1 := by rw [← hwa]; simp
  have zb : wb.heap.size = wa.heap.size + 1 := by rw [← hwb]; simp
  have K0 := Lib.hid (k0.after bb)
  have K1 := Lib.hid k1
  have hbw : Below w.heap.size w wb := ba.trans (bb.mono ba.size)
  have HZ : Hid (wa.heap.size = w.heap.size + 1 ∧ wb.heap.size = wa.heap.size + 1) := ⟨za, zb⟩
  have HX := Lib.hid hx
  have HWF := Lib.hid hw
  simp only [entCs, zero6] at hwa hwb
  have q0 : wb.cell? ⟨w.heap.size, 0, none⟩ = some (.int .i64 con) := K0.out.cell 0 rfl
  have q1 : wb.cell? ⟨w.heap.size, 1, none⟩ = some (.int .i64 day) := K0.out.cell 1 rfl
  have q2 : wb.cell? ⟨w.heap.size, 2, none⟩ = some (.int .i64 cur) := K0.out.cell 2 rfl
  have q3 : wb.cell? ⟨w.heap.size, 3, none⟩ = some (.int .i64 seq) := K0.out.cell 3 rfl
  have q4 : wb.cell? ⟨w.heap.size, 4, none⟩ = some (.int .i64 per) := K0.out.cell 4 rfl
  have q5 : wb.cell? ⟨w.heap.size, 5, none⟩ = some (.int .i64 ref) := K0.out.cell 5 rfl
  have q6 : wb.cell? ⟨w.heap.size, 6, none⟩ = some (.slice a ls.length cap0) := K0.out.cell 6 rfl
  clear za zb k0 k1 ba bb hx hw
  show Calls Tryd.prog _ #[.agg #[.int .i64 con, .int .i64 day, .int .i64 cur, .int .i64 seq, .int .i64 per, .int .i64 ref, .slice a ls.length cap0], .int .i64 no] w _
  go_enter Tryd.func11, Tryd.ntmps11
  go_wp2_with fail
  clear hwa hwb q0 q1 q2 q3 q4 q5 q6
  have hck := refcheck_ok ⟨con, day, cur, seq, per, ref⟩ a cap0 ls wb (HX.out.after hbw) (by omega) HWF.out
  unfold entV at hck
  obtain ⟨E, hE⟩ : ∃ E, checkE ⟨con, day, cur, seq, per, ref⟩ ls = E := ⟨_, rfl⟩
  rw [hE] at HE HC hck
  have HEE := Lib.hid hE
  have HK := Lib.hid hck
  clear hE hck
  with_reducible refine HK.out.mono ?_
  rintro e w1 ⟨rfl, hb1⟩
  have hb1w : Below w.heap.size w w1 := hbw.trans (hb1.mono hbw.size)
  have q5 : w1.cell? ⟨w.heap.size, 5, none⟩ = some (.int .i64 ref) := (K0.out.after hb1).cell 5 rfl
  obtain ⟨⟨o0, o1, o2, o3, o4, o5, o6⟩, f0, f1, f2, f3, f4, f5, f6⟩ := OBox.of_blk (K1.out.after hb1)
  obtain rfl := HC.out
  go_wp2_with fail
  (have he : revErr ⟨con, day, cur, seq, per, ref⟩ ls no = 24 := by rw [HE.out]; rw [if_pos trivial, if_neg HR.out]
   refine bodyPost_ret (v := .tuple #[entV zero6 none 0 0, .int .i64 24]) ?_ rfl ?_
   · simp [results, Tryd.results11, go_sem, o0, o1, o2, o3, o4, o5, o6, entV, zero6]
   · exact ⟨below_set7 hb1w (by have := HZ.out; omega) _ _ _ _ _ _ _, .inr ⟨by rw [he]; decide, by rw [he]⟩⟩)
set_option maxHeartbeats 2000000 in
theorem refrev_3 (con day cur seq per : Int) (no : Int) (a : Option Addr) (cap0 : Nat) (ls : List Ln) (w : World) (hx : LnAt w a ls) (hl : ls.length ≤ 1000) (hw : AllWf ls) (HC : Hid (checkE ⟨con, day, cur, seq, per, -1⟩ ls = 0)) (hn : no < 0) :
    Calls Tryd.prog 11 #[entV ⟨con, day, cur, seq, per, -1⟩ a ls.length cap0, .int .i64 no] w (RevEnd ⟨con, day, cur, seq, per, -1⟩ ls no w) := by
  have HR := Lib.hid hn
  have HE : Hid (revErr ⟨con, day, cur, seq, per, (-1)⟩ ls no = if checkE ⟨con, day, cur, seq, per, (-1)⟩ ls = 0 then (if (-1) = -1 then (if no < 0 then 10 else 0) else 24) else checkE ⟨con, day, cur, seq, per, (-1)⟩ ls) := rfl
  obtain ⟨wa, hwa⟩ : ∃ wa, w.alloc (.cells (entCs ⟨con, day, cur, seq, per, (-1)⟩ a ls.length cap0) 35) = wa := ⟨_, rfl⟩
  obtain ⟨wb, hwb⟩ : ∃ wb, wa.alloc (.cells (entCs zero6 none 0 0) 35) = wb := ⟨_, rfl⟩
  have k0 : Blk wa w.heap.size (entCs ⟨con, day, cur, seq, per, (-1)⟩ a ls.length cap0) 35 := by rw [← hwa]; exact Blk.new _ _ _
  have k1 : Blk wb wa.heap.size (entCs zero6 none 0 0) 35 := by rw [← hwb]; exact Blk.new _ _ _
  have ba : Below w.heap.size w wa := by rw [← hwa]; exact (Below.refl _ _).alloc (Nat.le_refl _) _
  have bb : Below wa.heap.size wa wb := by rw [← hwb]; exact (Below.refl _ _).alloc (Nat.le_refl _) _
  have za : wa.heap.size = w.heap.size + 1 := by rw [← hwa]; simp
  have zb : wb.heap.size = wa.heap.size + 1 := by rw [← hwb]; simp
  have K0 := Lib.hid (k0.after bb)
  have K1 := Lib.hid k1
  have hbw : Below w.heap.size w wb := ba.trans (bb.mono ba.size)
  have HZ : Hid (wa.heap.size = w.heap.size + 1 ∧ wb.heap.size = wa.heap.size + 1) := ⟨za, zb⟩
  have HX := Lib.hid hx
  have HWF := Lib.hid hw
  simp only [entCs, zero6] at hwa hwb
  have q0 : wb.cell? ⟨w.heap.size, 0, none⟩ = some (.int .i64 con) := K0.out.cell 0 rfl
  have q1 : wb.cell? ⟨w.heap.size, 1, none⟩ = some (.int .i64 day) := K0.out.cell 1 rfl
  have q2 : wb.cell? ⟨w.heap.size, 2, none⟩ = some (.int .i64 cur) := K0.out.cell 2 rfl
  have q3 : wb.cell? ⟨w.heap.size, 3, none⟩ = some (.int .i64 seq) := K0.out.cell 3 rfl
  have q4 : wb.cell? ⟨w.heap.size, 4, none⟩ = some (.int .i64 per) := K0.out.cell 4 rfl
  have q5 : wb.cell? ⟨w.heap.size, 5, none⟩ = some (.int .i64 (-1)) := K0.out.cell 5 rfl
  have q6 : wb.cell? ⟨w.heap.size, 6, none⟩ = some (.slice a ls.length cap0) := K0.out.cell 6 rfl
  clear za zb k0 k1 ba bb hx hw
  show Calls Tryd.prog _ #[.agg #[.int .i64 con, .int .i64 day, .int .i64 cur, .int .i64 seq, .int .i64 per, .int .i64 (-1), .slice a ls.length cap0], .int .i64 no] w _
  go_enter Tryd.func11, Tryd.ntmps11
  go_wp2_with fail
  clear hwa hwb q0 q1 q2 q3 q4 q5 q6
  have hck := refcheck_ok ⟨con, day, cur, seq, per, (-1)⟩ a cap0 ls wb (HX.out.after hbw) (by omega) HWF.out
  unfold entV at hck
  obtain ⟨E, hE⟩ : ∃ E, checkE ⟨con, day, cur, seq, per, (-1)⟩ ls = E := ⟨_, rfl⟩
  rw [hE] at HE HC hck
  have HEE := Lib.hid hE
  have HK := Lib.hid hck
  clear hE hck
  with_reducible refine HK.out.mono ?_
  rintro e w1 ⟨rfl, hb1⟩
  have hb1w : Below w.heap.size w w1 := hbw.trans (hb1.mono hbw.size)
  have q5 : w1.cell? ⟨w.heap.size, 5, none⟩ = some (.int .i64 (-1)) := (K0.out.after hb1).cell 5 rfl
  obtain ⟨⟨o0, o1, o2, o3, o4, o5, o6⟩, f0, f1, f2, f3, f4, f5, f6⟩ := OBox.of_blk (K1.out.after hb1)
  obtain rfl := HC.out
  go_wp2_with fail
  (have he : revErr ⟨con, day, cur, seq, per, -1⟩ ls no = 10 := by rw [HE.out]; rw [if_pos trivial, if_pos trivial, if_pos HR.out]
   refine bodyPost_ret (v := .tuple #[entV zero6 none 0 0, .int .i64 10]) ?_ rfl ?_
   · simp [results, Tryd.results11, go_sem, o0, o1, o2, o3, o4, o5, o6, entV, zero6]
   · exact ⟨below_set7 hb1w (by have := HZ.out; omega) _ _ _ _ _ _ _, .inr ⟨by rw [he]; decide, by rw [he]⟩⟩)

set_option maxHeartbeats 2000000 in
theorem refrev_4 (con day cur seq per : Int) (no : Int) (a : Option Addr) (cap0 : Nat) (ls : List Ln) (w : World) (hx : LnAt w a ls) (hl : ls.length ≤ 1000) (hw : AllWf ls) (HC : Hid (checkE ⟨con, day, cur, seq, per, -1⟩ ls = 0)) (hn : ¬ no < 0) :
    Calls Tryd.prog 11 #[entV ⟨con, day, cur, seq, per, -1⟩ a ls.length cap0, .int .i64 no] w (RevEnd ⟨con, day, cur, seq, per, -1⟩ ls no w) := by
  obtain ⟨i0, hi, hz0, hz1, hz2⟩ := info_parts infoRLine
  have HR := Lib.hid hn
  have HM := Lib.hid (fits_min (check_fits HC.out) hw)
  have HE : Hid (revErr ⟨con, day, cur, seq, per, (-1)⟩ ls no = if checkE ⟨con, day, cur, seq, per, (-1)⟩ ls = 0 then (if (-1) = -1 then (if no < 0 then 10 else 0) else 24) else checkE ⟨con, day, cur, seq, per, (-1)⟩ ls) := rfl
  obtain ⟨wa, hwa⟩ : ∃ wa, w.alloc (.cells (entCs ⟨con, day, cur, seq, per, (-1)⟩ a ls.length cap0) 35) = wa := ⟨_, rfl⟩
  obtain ⟨wb, hwb⟩ : ∃ wb, wa.alloc (.cells (entCs zero6 none 0 0) 35) = wb := ⟨_, rfl⟩
  have k0 : Blk wa w.heap.size (entCs ⟨con, day, cur, seq, per, (-1)⟩ a ls.length cap0) 35 := by rw [← hwa]; exact Blk.new _ _ _
  have k1 : Blk wb wa.heap.size (entCs zero6 none 0 0) 35 := by rw [← hwb]; exact Blk.new _ _ _
  have ba : Below w.heap.size w wa := by rw [← hwa]; exact (Below.refl _ _).alloc (Nat.le_refl _) _
  have bb : Below wa.heap.size wa wb := by rw [← hwb]; exact (Below.refl _ _).alloc (Nat.le_refl _) _
  have za : wa.heap.size = w.heap.size + 1 := by rw [← hwa]; simp
  have zb : wb.heap.size = wa.heap.size + 1 := by rw [← hwb]; simp
  have K0 := Lib.hid (k0.after bb)
  have K1 := Lib.hid k1
  have hbw : Below w.heap.size w wb := ba.trans (bb.mono ba.size)
  have HZ : Hid (wa.heap.size = w.heap.size + 1 ∧ wb.heap.size = wa.heap.size + 1) := ⟨za, zb⟩
  have HX := Lib.hid hx
  have HWF := Lib.hid hw
  simp only [entCs, zero6] at hwa hwb
  have q0 : wb.cell? ⟨w.heap.size, 0, none⟩ = some (.int .i64 con) := K0.out.cell 0 rfl
  have q1 : wb.cell? ⟨w.heap.size, 1, none⟩ = some (.int .i64 day) := K0.out.cell 1 rfl
  have q2 : wb.cell? ⟨w.heap.size, 2, none⟩ = some (.int .i64 cur) := K0.out.cell 2 rfl
  have q3 : wb.cell? ⟨w.heap.size, 3, none⟩ = some (.int .i64 seq) := K0.out.cell 3 rfl
  have q4 : wb.cell? ⟨w.heap.size, 4, none⟩ = some (.int .i64 per) := K0.out.cell 4 rfl
  have q5 : wb.cell? ⟨w.heap.size, 5, none⟩ = some (.int .i64 (-1)) := K0.out.cell 5 rfl
  have q6 : wb.cell? ⟨w.heap.size, 6, none⟩ = some (.slice a ls.length cap0) := K0.out.cell 6 rfl
  clear za zb k0 k1 ba bb hx hw
  show Calls Tryd.prog _ #[.agg #[.int .i64 con, .int .i64 day, .int .i64 cur, .int .i64 seq, .int .i64 per, .int .i64 (-1), .slice a ls.length cap0], .int .i64 no] w _
  go_enter Tryd.func11, Tryd.ntmps11
  go_wp2_with fail
  clear hwa hwb q0 q1 q2 q3 q4 q5 q6
  have hck := refcheck_ok ⟨con, day, cur, seq, per, (-1)⟩ a cap0 ls wb (HX.out.after hbw) (by omega) HWF.out
  unfold entV at hck
  obtain ⟨E, hE⟩ : ∃ E, checkE ⟨con, day, cur, seq, per, (-1)⟩ ls = E := ⟨_, rfl⟩
  rw [hE] at HE HC hck
  have HEE := Lib.hid hE
  have HK := Lib.hid hck
  clear hE hck
  with_reducible refine HK.out.mono ?_
  rintro e w1 ⟨rfl, hb1⟩
  have hb1w : Below w.heap.size w w1 := hbw.trans (hb1.mono hbw.size)
  have q5 : w1.cell? ⟨w.heap.size, 5, none⟩ = some (.int .i64 (-1)) := (K0.out.after hb1).cell 5 rfl
  obtain ⟨⟨o0, o1, o2, o3, o4, o5, o6⟩, f0, f1, f2, f3, f4, f5, f6⟩ := OBox.of_blk (K1.out.after hb1)
  obtain rfl := HC.out
  have herr : revErr ⟨con, day, cur, seq, per, -1⟩ ls no = 0 := by
    rw [HE.out]
    have := HR.out
    simp
    omega
  have HERR := Lib.hid herr
  clear HE herr
  obtain ⟨wc, hwc⟩ : ∃ wc, w1.alloc (.cells (entCs ⟨con, day, cur, 0, 0, no⟩ none 0 0) 35) = wc := ⟨_, rfl⟩
  have k2 : Blk wc w1.heap.size (entCs ⟨con, day, cur, 0, 0, no⟩ none 0 0) 35 := by rw [← hwc]; exact Blk.new _ _ _
  have bc : Below w1.heap.size w1 wc := by rw [← hwc]; exact (Below.refl _ _).alloc (Nat.le_refl _) _
  have zc : wc.heap.size = w1.heap.size + 1 := by rw [← hwc]; simp
  have M0 := Lib.hid ((K0.out.after hb1).after bc)
  have M1 := Lib.hid ((K1.out.after hb1).after bc)
  have M2 := Lib.hid k2
  have hbw2 : Below w.heap.size w wc := hb1w.trans (bc.mono hb1w.size)
  have HZ2 : Hid (wa.heap.size = w.heap.size + 1 ∧ wb.heap.size = wa.heap.size + 1 ∧ wb.heap.size ≤ w1.heap.size ∧ wc.heap.size = w1.heap.size + 1) := ⟨HZ.out.1, HZ.out.2, hb1.size, zc⟩
  have q0 : w1.cell? ⟨w.heap.size, 0, none⟩ = some (.int .i64 con) := (K0.out.after hb1).cell 0 rfl
  have q1 : w1.cell? ⟨w.heap.size, 1, none⟩ = some (.int .i64 day) := (K0.out.after hb1).cell 1 rfl
  have q2 : w1.cell? ⟨w.heap.size, 2, none⟩ = some (.int .i64 cur) := (K0.out.after hb1).cell 2 rfl
  have HWC := Lib.hid hwc
  clear hwc k2 bc zc
  go_wp2_with fail
  simp only [entCs] at HWC
  rw [HWC.out]
  clear HWC q0 q1 q2 q5 o0 o1 o2 o3 o4 o5 o6 f0 f1 f2 f3 f4 f5 f6
  go_loopw [8] (fun i wr => ∃ k : Nat, k ≤ ls.length ∧ i = .int .i64 k ∧ RevRel ⟨con, day, cur, seq, per, -1⟩ ⟨con, day, cur, 0, 0, no⟩ a cap0 ls w wa w1 wc k wr) (fun i _ => ls.length - (intOf i).toNat)
  case atStart => exact ⟨0, by omega, rfl, none, 0, World.ownsRow_nil _ _ _ _, M2.out, M0.out, M1.out, hbw2, Nat.le_refl _⟩
  case round =>
    obtain ⟨k, hk, rfl, c, cap, hown, h2, h0, h1, hbl, zr⟩ := hrel
    have b6 : wr.cell? ⟨w.heap.size, 6, none⟩ = some (.slice a ls.length cap0) := h0.cell 6 rfl
    by_cases hlt : k < ls.length
    · obtain ⟨b, o, rfl, hc⟩ := HX.out (by omega)
      obtain ⟨d0, d1, d2⟩ := hc k hlt
      have hmin := HM.out (Ln.at ls k) (at_mem hlt)
      obtain ⟨⟨lp, lc, la⟩, hLL⟩ : ∃ L, Ln.at ls k = L := ⟨_, rfl⟩
      rw [hLL] at d0 d1 d2 hmin
      simp only at d0 d1 d2 hmin
      obtain ⟨m1, m2⟩ := hmin
      have hN : Hid (flatF (lnRow (ls.map Ln.neg)) (k + 1) = flatF (lnRow (ls.map Ln.neg)) k ++ [.int .i64 lp, .int .i64 lc, .int .i64 (-la)]) := by show _ ++ lnRow (ls.map Ln.neg) k = _; rw [neg_row hlt hLL]
      have hsub : IntKind.i64.wrap (-la) = -la := IntWalk.i64_in _ (by omega)
      have j1 : (0 : Int) ≤ (k : Int) := by omega
      have j2 : (k : Int) < (ls.length : Int) := by omega
      have l6 : wr.cell? ⟨w1.heap.size, 6, none⟩ = some (.slice c k cap) := h2.cell 6 rfl
      have DW : Hid (w.cell? ⟨b, o + k * 3, none⟩ = some (.int .i64 lp) ∧ w.cell? ⟨b, o + k * 3 + 1, none⟩ = some (.int .i64 lc) ∧ w.cell? ⟨b, o + k * 3 + 2, none⟩ = some (.int .i64 la)) := ⟨d0, d1, d2⟩
      replace d0 := below_cell hbl d0
      replace d1 := below_cell hbl d1
      replace d2 := below_cell hbl d2
      clear hc hLL
      go_wp2_with fail
      have e6 := below_cell (Below.refl wr.heap.size wr).drew b6
      have e0 := below_cell (Below.refl wr.heap.size wr).drew d0
      have e1 := below_cell (Below.refl wr.heap.size wr).drew d1
      have e2 := below_cell (Below.refl wr.heap.size wr).drew d2
      have zr2 := hbw2.size
      have n1 : w.heap.size ≠ w1.heap.size := by have := HZ2.out; omega
      have n2 : b ≠ w1.heap.size := by have := World.block_lt_of_cell? w _ DW.out.1; have := HZ2.out; simp at *; omega
      refine wp_region_final (fun w' => w'.cell? ⟨w1.heap.size, 6, none⟩ = some (.slice c k cap) ∧ w'.cell? ⟨w.heap.size, 6, none⟩ = some (.slice (some ⟨b, o, none⟩) ls.length cap0) ∧ w'.cell? ⟨b, o + k * 3, none⟩ = some (.int .i64 lp) ∧ w'.cell? ⟨b, o + k * 3 + 1, none⟩ = some (.int .i64 lc) ∧ w'.cell? ⟨b, o + k * 3 + 2, none⟩ = some (.int .i64 la)) 25 (by kernel_rfl) ?_
      obtain ⟨wd, hwd⟩ : ∃ wd, wr.drew = wd := ⟨_, rfl⟩
      have hbd : Below wr.heap.size wr wd := by rw [← hwd]; exact (Below.refl _ _).drew
      have hba : Below wd.heap.size wd (wd.alloc (.cells #[.int .i64 lp, .int .i64 lc, .int .i64 (-la)] 60)) := (Below.refl _ _).alloc (Nat.le_refl _) _
      have hownd := own_after hown hbd
      have hbD : Below wr.heap.size wr (wd.alloc (.cells #[.int .i64 lp, .int .i64 lc, .int .i64 (-la)] 60)) := hbd.trans (hba.mono hbd.size)
      have hr := fun (wx : World) (hg : World.grownBy (wd.alloc (.cells #[.int .i64 lp, .int .i64 lc, .int .i64 (-la)] 60)) wx (Value.ownBlock (.slice c k cap))) => RevRel.kept hown h2 h0 h1 hbl hbw2.size hbD hg
      have HR := Lib.hid hr
      have zdz := hbd.size
      have n3 : wa.heap.size ≠ w1.heap.size := by have := HZ2.out; omega
      clear hr
      have hSd : wd.cell? ⟨w1.heap.size, 6, none⟩ = some (.slice c k cap) ∧ wd.cell? ⟨w.heap.size, 6, none⟩ = some (.slice (some ⟨b, o, none⟩) ls.length cap0) ∧ wd.cell? ⟨b, o + k * 3, none⟩ = some (.int .i64 lp) ∧ wd.cell? ⟨b, o + k * 3 + 1, none⟩ = some (.int .i64 lc) ∧ wd.cell? ⟨b, o + k * 3 + 2, none⟩ = some (.int .i64 la) := by rw [← hwd]; exact ⟨below_cell (Below.refl wr.heap.size wr).drew l6, e6, e0, e1, e2⟩
      rw [hwd]
      clear hwd
      refine wpAnyF_takes (i := 0) (v := ?_) rfl (by kernel_rfl) (fun _ _ _ h => h) (by rfl) hSd ?_ ?_
      rotate_left 1
      · intro w hSw
        obtain ⟨s1, s2, s3, s4, s5⟩ := hSw
        go_simp
        try with_reducible rfl
      try simp only [Act.put, List.setIfInBounds_toArray, List.set_cons_zero, List.set_cons_succ]
      refine wpAnyF_takes (i := 1) (v := ?_) rfl (by kernel_rfl) (fun _ _ _ h => h) (by rfl) hSd ?_ ?_
      rotate_left 1
      · intro w hSw
        obtain ⟨s1, s2, s3, s4, s5⟩ := hSw
        go_simp
        try with_reducible rfl
      try simp only [Act.put, List.setIfInBounds_toArray, List.set_cons_zero, List.set_cons_succ]
      refine wpAnyF_takes (i := 2) (v := ?_) rfl (by kernel_rfl) (fun _ _ _ h => h) (by rfl) hSd ?_ ?_
      rotate_left 1
      · intro w hSw
        obtain ⟨s1, s2, s3, s4, s5⟩ := hSw
        go_simp
        try with_reducible rfl
      try simp only [Act.put, List.setIfInBounds_toArray, List.set_cons_zero, List.set_cons_succ]
      refine wpAnyF_takes (i := 3) (v := ?_) rfl (by kernel_rfl) (fun _ _ _ h => h) (by rfl) hSd ?_ ?_
      rotate_left 1
      · intro w hSw
        obtain ⟨s1, s2, s3, s4, s5⟩ := hSw
        go_simp
        try with_reducible rfl
      try simp only [Act.put, List.setIfInBounds_toArray, List.set_cons_zero, List.set_cons_succ]
      refine wpAnyF_takes (i := 4) (v := ?_) rfl (by kernel_rfl) (fun _ _ _ h => h) (by rfl) hSd ?_ ?_
      rotate_left 1
      · intro w hSw
        obtain ⟨s1, s2, s3, s4, s5⟩ := hSw
        go_simp
        try with_reducible rfl
      try simp only [Act.put, List.setIfInBounds_toArray, List.set_cons_zero, List.set_cons_succ]
      refine wpAnyF_takes (i := 5) (v := ?_) rfl (by kernel_rfl) (fun _ _ _ h => h) (by rfl) hSd ?_ ?_
      rotate_left 1
      · intro w hSw
        obtain ⟨s1, s2, s3, s4, s5⟩ := hSw
        go_simp
        try with_reducible rfl
      try simp only [Act.put, List.setIfInBounds_toArray, List.set_cons_zero, List.set_cons_succ]
      refine wpAnyF_takes (i := 6) (v := ?_) rfl (by kernel_rfl) (fun _ _ _ h => h) (by rfl) hSd ?_ ?_
      rotate_left 1
      · intro w hSw
        obtain ⟨s1, s2, s3, s4, s5⟩ := hSw
        go_simp
        try with_reducible rfl
      try simp only [Act.put, List.setIfInBounds_toArray, List.set_cons_zero, List.set_cons_succ]
      refine wpAnyF_takes (i := 7) (v := ?_) rfl (by kernel_rfl) (fun _ _ _ h => h) (by rfl) hSd ?_ ?_
      rotate_left 1
      · intro w hSw
        obtain ⟨s1, s2, s3, s4, s5⟩ := hSw
        go_simp
        try with_reducible rfl
      try simp only [Act.put, List.setIfInBounds_toArray, List.set_cons_zero, List.set_cons_succ]
      refine wpAnyF_takes (i := 8) (v := ?_) rfl (by kernel_rfl) (fun _ _ _ h => h) (by rfl) hSd ?_ ?_
      rotate_left 1
      · intro w hSw
        obtain ⟨s1, s2, s3, s4, s5⟩ := hSw
        go_simp
        try with_reducible rfl
      try simp only [Act.put, List.setIfInBounds_toArray, List.set_cons_zero, List.set_cons_succ]
      refine wpAnyF_takes (i := 9) (v := ?_) rfl (by kernel_rfl) (fun _ _ _ h => h) (by rfl) hSd ?_ ?_
      rotate_left 1
      · intro w hSw
        obtain ⟨s1, s2, s3, s4, s5⟩ := hSw
        go_simp
        try with_reducible rfl
      try simp only [Act.put, List.setIfInBounds_toArray, List.set_cons_zero, List.set_cons_succ]
      refine wpAnyF_takes (i := 10) (v := ?_) rfl (by kernel_rfl) (fun _ _ _ h => h) (by rfl) hSd ?_ ?_
      rotate_left 1
      · intro w hSw
        obtain ⟨s1, s2, s3, s4, s5⟩ := hSw
        go_simp
        try with_reducible rfl
      try simp only [Act.put, List.setIfInBounds_toArray, List.set_cons_zero, List.set_cons_succ]
      refine wpAnyF_takes (i := 11) (v := ?_) rfl (by kernel_rfl) (fun _ _ _ h => h) (by rfl) hSd ?_ ?_
      rotate_left 1
      · intro w hSw
        obtain ⟨s1, s2, s3, s4, s5⟩ := hSw
        go_simp
        try with_reducible rfl
      try simp only [Act.put, List.setIfInBounds_toArray, List.set_cons_zero, List.set_cons_succ]
      refine wpAnyF_takes (i := 12) (v := ?_) rfl (by kernel_rfl) (fun _ _ _ h => h) (by rfl) hSd ?_ ?_
      rotate_left 1
      · intro w hSw
        obtain ⟨s1, s2, s3, s4, s5⟩ := hSw
        go_simp
        try with_reducible rfl
      try simp only [Act.put, List.setIfInBounds_toArray, List.set_cons_zero, List.set_cons_succ]
      refine wpAnyF_takes (i := 13) (v := ?_) rfl (by kernel_rfl) (fun _ _ _ h => h) (by rfl) hSd ?_ ?_
      rotate_left 1
      · intro w hSw
        obtain ⟨s1, s2, s3, s4, s5⟩ := hSw
        go_simp
        try with_reducible rfl
      try simp only [Act.put, List.setIfInBounds_toArray, List.set_cons_zero, List.set_cons_succ]
      refine wpAnyF_takes (i := 14) (v := ?_) rfl (by kernel_rfl) (fun _ _ _ h => h) (by rfl) hSd ?_ ?_
      rotate_left 1
      · intro w hSw
        obtain ⟨s1, s2, s3, s4, s5⟩ := hSw
        go_simp
        try with_reducible rfl
      try simp only [Act.put, List.setIfInBounds_toArray, List.set_cons_zero, List.set_cons_succ]
      refine wpAnyF_takes (i := 15) (v := ?_) rfl (by kernel_rfl) (fun _ _ _ h => h) (by rfl) hSd ?_ ?_
      rotate_left 1
      · intro w hSw
        obtain ⟨s1, s2, s3, s4, s5⟩ := hSw
        go_simp
        try with_reducible rfl
      try simp only [Act.put, List.setIfInBounds_toArray, List.set_cons_zero, List.set_cons_succ]
      refine wpAnyF_takes (i := 16) (v := ?_) rfl (by kernel_rfl) (fun _ _ _ h => h) (by rfl) hSd ?_ ?_
      rotate_left 1
      · intro w hSw
        obtain ⟨s1, s2, s3, s4, s5⟩ := hSw
        go_simp
        try with_reducible rfl
      try simp only [Act.put, List.setIfInBounds_toArray, List.set_cons_zero, List.set_cons_succ]
      refine wpAnyF_takes (i := 17) (v := ?_) rfl (by kernel_rfl) (fun _ _ _ h => h) (by rfl) hSd ?_ ?_
      rotate_left 1
      · intro w hSw
        obtain ⟨s1, s2, s3, s4, s5⟩ := hSw
        go_simp
        try with_reducible rfl
      try simp only [Act.put, List.setIfInBounds_toArray, List.set_cons_zero, List.set_cons_succ]
      refine wpAnyF_takes (i := 18) (v := ?_) rfl (by kernel_rfl) (fun _ _ _ h => h) (by rfl) hSd ?_ ?_
      rotate_left 1
      · intro w hSw
        obtain ⟨s1, s2, s3, s4, s5⟩ := hSw
        go_simp
        try with_reducible rfl
      try simp only [Act.put, List.setIfInBounds_toArray, List.set_cons_zero, List.set_cons_succ]
      refine wpAnyF_takes (i := 19) (v := ?_) rfl (by kernel_rfl) (fun _ _ _ h => h) (by rfl) hSd ?_ ?_
      rotate_left 1
      · intro w hSw
        obtain ⟨s1, s2, s3, s4, s5⟩ := hSw
        go_simp
        try with_reducible rfl
      try simp only [Act.put, List.setIfInBounds_toArray, List.set_cons_zero, List.set_cons_succ]
      refine wpAnyF_takes (i := 20) (v := ?_) rfl (by kernel_rfl) (fun _ _ _ h => h) (by rfl) hSd ?_ ?_
      rotate_left 1
      · intro w hSw
        obtain ⟨s1, s2, s3, s4, s5⟩ := hSw
        go_simp
        try with_reducible rfl
      try simp only [Act.put, List.setIfInBounds_toArray, List.set_cons_zero, List.set_cons_succ]
      refine wpAnyF_takes (i := 21) (v := ?_) rfl (by kernel_rfl) (fun _ _ _ h => h) (by rfl) hSd ?_ ?_
      rotate_left 1
      · intro w hSw
        obtain ⟨s1, s2, s3, s4, s5⟩ := hSw
        go_simp
        try with_reducible rfl
      try simp only [Act.put, List.setIfInBounds_toArray, List.set_cons_zero, List.set_cons_succ]
      refine wpAnyF_next (i := 22) rfl (by kernel_rfl) (fun K hK => ?_)
      go_simp
      refine hK.out _ _ (.inr ⟨below_cell hba hSd.1, below_cell hba hSd.2.1, below_cell hba hSd.2.2.1, below_cell hba hSd.2.2.2.1, below_cell hba hSd.2.2.2.2⟩) ?_
      clear hK K
      try simp only [Act.put, List.setIfInBounds_toArray, List.set_cons_zero, List.set_cons_succ]
      refine wpAnyF_next (i := 23) rfl (by kernel_rfl) (fun K hK => ?_)
      refine step_append_lies _ (by rfl) _ _ _ (by rfl) wc.heap.size 60 i0 _ 3 24 Tryd.underlying33 hi hz0 hz1 hz2 rfl (by omega) _ k _ (by rfl) (hownd.alloc _)
            ⟨wd.heap.size, 0, none⟩ 1 1 [.int .i64 lp, .int .i64 lc, .int .i64 (-la)] (by rfl) (by rfl) (World.news_of_block (cs := #[.int .i64 lp, .int .i64 lc, .int .i64 (-la)]) (t := 60) (fr := (0, 0)) (heap_alloc_new wd _)) (by simp [Value.oneCell'])
            (by omega) (by unfold maxLen; omega) (by omega) (by simp; omega) (wd.heap.size + 1) (by simp) ?_
      intro g cap' wx hown1 hgrow hat hgt
      obtain ⟨r2, r0, r1, rb, rz⟩ := HR.out _ hgrow
      have s6 : wx.cell? ⟨w.heap.size, 6, none⟩ = some (.slice (some ⟨b, o, none⟩) ls.length cap0) := r0.cell 6 rfl
      obtain ⟨v0, v1, v2⟩ := DW.out
      have s0 := below_cell rb v0
      have s1 := below_cell rb v1
      have s2 := below_cell rb v2
      have m6 : wx.cell? ⟨w1.heap.size, 6, none⟩ = some (.slice c k cap) := r2.cell 6 rfl
      have mf := r2.free 6
      clear v0 v1 v2
      refine hK.out _ _ (.inr ⟨m6, s6, s0, s1, s2⟩) ?_
      clear hK K
      try simp only [Act.put, List.setIfInBounds_toArray, List.set_cons_zero, List.set_cons_succ]
      refine wpAnyF_next (i := 24) rfl (by kernel_rfl) (fun K hK => ?_)
      go_simp
      refine hK.out _ _ (.inr ⟨m6, s6, s0, s1, s2⟩) ?_
      clear hK K
      try simp only [Act.put, List.setIfInBounds_toArray, List.set_cons_zero, List.set_cons_succ]
      refine wpAnyF_next (i := 25) rfl (by kernel_rfl) (fun K hK => ?_)
      go_simp
      refine hK.out _ _ (.inl rfl) ?_
      clear hK K
      try simp only [Act.put, List.setIfInBounds_toArray, List.set_cons_zero, List.set_cons_succ]
      refine wpAnyF_done (by kernel_rfl) ?_ _
      go_wp2_with fail
      have hq := hown1.kept (grown_setCell wx w1.heap.size 6 (.slice (some ⟨g, 0, none⟩) (k + 1) cap')) (Or.inr (by have := r2.own_ne hown1 (by decide); simpa using this))
      rw [← hN.out] at hq
      go_roundw
      case rel => exact ⟨k + 1, by omega, by go_num, _, _, hq, r2.set 6 _, r0.far 6 _ n1, r1.far 6 _ n3, rb.setCell (p := ⟨w1.heap.size, 6, none⟩) (by have := HZ2.out; simp; omega) _, by simp [World.setCell]; omega⟩
      case measure => simp [intOf]; omega
    · obtain rfl : k = ls.length := by omega
      obtain ⟨c', cap', hv, g0, _, _, g3, hrow⟩ := owned_rows (f := lnRow (ls.map Ln.neg)) (fun i => rfl) hown
      obtain ⟨rfl, _, rfl⟩ : c = c' ∧ ls.length = ls.length ∧ cap = cap' := by simpa using hv
      have hln := Lib.hid (rows_ln (ls := ls.map Ln.neg) (by rw [List.length_map]; exact hrow))
      have l0 : wr.cell? ⟨w1.heap.size, 0, none⟩ = some (.int .i64 con) := h2.cell 0 rfl
      have l1 : wr.cell? ⟨w1.heap.size, 1, none⟩ = some (.int .i64 day) := h2.cell 1 rfl
      have l2 : wr.cell? ⟨w1.heap.size, 2, none⟩ = some (.int .i64 cur) := h2.cell 2 rfl
      have l3 : wr.cell? ⟨w1.heap.size, 3, none⟩ = some (.int .i64 0) := h2.cell 3 rfl
      have l4 : wr.cell? ⟨w1.heap.size, 4, none⟩ = some (.int .i64 0) := h2.cell 4 rfl
      have l5 : wr.cell? ⟨w1.heap.size, 5, none⟩ = some (.int .i64 no) := h2.cell 5 rfl
      have l6 : wr.cell? ⟨w1.heap.size, 6, none⟩ = some (.slice c ls.length cap) := h2.cell 6 rfl
      obtain ⟨⟨o0, o1, o2, o3, o4, o5, o6⟩, f0, f1, f2, f3, f4, f5, f6⟩ := OBox.of_blk h1
      have G3 := Lib.hid g3
      have HN := Lib.hid (h1.own_ne hown (by decide))
      clear hrow hv g3 h0 h1 h2 hown
      go_wp2_with fail
      refine bodyPost_ret (v := .tuple #[entV ⟨con, day, cur, 0, 0, no⟩ c ls.length cap, .int .i64 0]) ?_ rfl ?_
      · simp [results, Tryd.results11, go_sem, o0, o1, o2, o3, o4, o5, o6, entV]
      · refine ⟨below_set7 hbl (by have := HZ2.out; omega) _ _ _ _ _ _ _, .inl ⟨HERR.out, c, cap, rfl, g0, hln.out.grown (grown7 _ _ _ _ _ _ _ _ _) (fun x e q => ?_), fun x e => ?_⟩⟩
        · subst e
          exact HN.out q.symm
        · have := (G3.out x e).1
          have := HZ2.out
          omega

theorem refreverse_ok (s : Six) (no : Int) (a : Option Addr) (cap : Nat) (ls : List Ln) (w : World) (hx : LnAt w a ls) (hl : ls.length ≤ 1000) (hw : AllWf ls) :
    Calls Tryd.prog 11 #[entV s a ls.length cap, .int .i64 no] w (RevEnd s ls no w) := by
  obtain ⟨con, day, cur, seq, per, ref⟩ := s
  by_cases hc : checkE ⟨con, day, cur, seq, per, ref⟩ ls = 0
  · by_cases h2 : ref = -1
    · subst h2
      by_cases h3 : no < 0
      · exact refrev_3 con day cur seq per no a cap ls w hx hl hw hc h3
      · exact refrev_4 con day cur seq per no a cap ls w hx hl hw hc h3
    · exact refrev_2 con day cur seq per ref no a cap ls w hx hl hw hc h2
  · exact refrev_1 con day cur seq per ref no a cap ls w hx hl hw hc

end Go.Proofs.YtklbgcpafbjekaaDoor
