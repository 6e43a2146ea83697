/- Package entry: Reverse. -/
import Derived.Test.YtmjgcenhgpkhiaaDoorEntG
namespace Go.Proofs.YtmjgcenhgpkhiaaDoor
open Go.RowKit
set_option linter.unusedVariables false
set_option maxRecDepth 100000
set_option linter.unusedSimpArgs false

/-- What is wrong with a reversal. -/
def revErr (s : Six) (ls : List Ln) (no : Int) : Int :=
  if checkE s ls = 0 then (if s.ref = -1 then (if no < 0 then 10 else 0) else 24) else checkE s ls

def RevEnd (s : Six) (ls : List Ln) (no : Int) (w : World) (e : Ending) (w' : World) : Prop :=
  Below w.heap.size w w' ∧ ((revErr s ls no = 0 ∧ ∃ c cap, e = .returned (.tuple #[entV ⟨s.con, s.day, s.cur, 0, 0, no⟩ c ls.length cap, .int .i64 0]) ∧ (c = none → ls.length = 0 ∧ cap = 0) ∧ LnAt w' c (ls.map Ln.neg) ∧ (∀ x, c = some x → w.heap.size ≤ x.block))
    ∨ (revErr s ls no ≠ 0 ∧ e = .returned (.tuple #[entV zero6 none 0 0, .int .i64 (revErr s ls no)])))

theorem fits_min {ls : List Ln} (h : fitsB ls = true) (hw : AllWf ls) : ∀ l ∈ ls, -9223372036854775807 ≤ l.a ∧ l.a ≤ 9223372036854775807 := fun l hl => by
  obtain ⟨_, _, h1, h2⟩ := hw l hl
  refine ⟨?_, h2⟩
  unfold fitsB at h
  rw [Bool.not_eq_true', List.any_eq_false] at h
  have := h l hl
  simp at this
  omega
theorem check_fits {s : Six} {ls : List Ln} (h : checkE s ls = 0) : fitsB ls = true := by
  unfold checkE at h
  cases h1 : fitsB ls
  · rw [h1] at h
    revert h
    split
    · split
      · split <;> simp
      · simp
    · simp
  · rfl

theorem far7 {w : World} {b c i : Nat} {v v0 v1 v2 v3 v4 v5 v6 : Value} (h : w.cell? ⟨c, i, none⟩ = some v) (hn : c ≠ b) :
    (((((((w.setCell ⟨b, 0, none⟩ v0).setCell ⟨b, 1, none⟩ v1).setCell ⟨b, 2, none⟩ v2).setCell ⟨b, 3, none⟩ v3).setCell ⟨b, 4, none⟩ v4).setCell ⟨b, 5, none⟩ v5).setCell ⟨b, 6, none⟩ v6).cell? ⟨c, i, none⟩ = some v :=
  set_far (set_far (set_far (set_far (set_far (set_far (set_far h hn) hn) hn) hn) hn) hn) hn

theorem grown7 (w : World) (b : Nat) (v0 v1 v2 v3 v4 v5 v6 : Value) :
    w.grownBy (((((((w.setCell ⟨b, 0, none⟩ v0).setCell ⟨b, 1, none⟩ v1).setCell ⟨b, 2, none⟩ v2).setCell ⟨b, 3, none⟩ v3).setCell ⟨b, 4, none⟩ v4).setCell ⟨b, 5, none⟩ v5).setCell ⟨b, 6, none⟩ v6) (some b) :=
  grown_trans (grown_trans (grown_trans (grown_trans (grown_trans (grown_trans (grown_setCell _ _ _ _) (grown_setCell _ _ _ _)) (grown_setCell _ _ _ _)) (grown_setCell _ _ _ _)) (grown_setCell _ _ _ _)) (grown_setCell _ _ _ _)) (grown_setCell _ _ _ _)


set_option maxHeartbeats 2000000 in
theorem rev_1 (s : Six) (no : Int) (a : Option Addr) (cap : Nat) (ls : List Ln) (w : World) (hR : RulesAt w) (hx : LnAt w a ls) (hl : ls.length ≤ 1000000) (hw : AllWf ls) (ha : a = none → ls.length = 0 ∧ cap = 0) (hc : checkE s ls ≠ 0) :
    Calls Tryd.prog 10 #[entV s a ls.length cap, .int .i64 no] w (RevEnd s ls no w) := by
  have HE : Hid (revErr s ls no = if checkE s ls = 0 then (if s.ref = -1 then (if no < 0 then 10 else 0) else 24) else checkE s ls) := rfl
  have HX := Lib.hid hx
  have HA := Lib.hid ha
  clear hx ha
  unfold entV
  obtain ⟨wa, hwa⟩ : ∃ wa, w.alloc (.cells (entCs s a ls.length cap) 26) = wa := ⟨_, rfl⟩
  have hba : Below w.heap.size w wa := by rw [← hwa]; exact (Below.refl _ _).alloc (Nat.le_refl _) _
  have hza : wa.heap.size = w.heap.size + 1 := by rw [← hwa]; simp
  have box1 : EBox wa w.heap.size s a ls.length cap := by rw [← hwa]; exact EBox.new _ _ _ _ _ _
  obtain ⟨wb, hwb⟩ : ∃ wb, wa.alloc (.cells (entCs zero6 none 0 0) 26) = wb := ⟨_, rfl⟩
  have hbb : Below wa.heap.size wa wb := by rw [← hwb]; exact (Below.refl _ _).alloc (Nat.le_refl _) _
  have hzb : wb.heap.size = wa.heap.size + 1 := by rw [← hwb]; simp
  have HO : Hid (OBox wb wa.heap.size) := by rw [← hwb]; exact OBox.new _ _
  have box1' := box1.after hbb
  have HB := Lib.hid box1'
  have hbw : Below w.heap.size w wb := hba.trans (hbb.mono (by omega))
  have HZA := Lib.hid hza
  have HZB := Lib.hid hzb
  have HR := Lib.hid (hR.after hbw)
  have HW := Lib.hid hw
  have HC := Lib.hid hc
  unfold entCs zero6 at hwb
  unfold entCs at hwa
  obtain ⟨p0, p1, p2, p3, p4, p5, p6⟩ := id box1'
  clear hza hzb box1 box1' hR hw hc
  go_enter Tryd.func10, Tryd.ntmps10
  go_wp2_with fail
  clear hwa hwb p0 p1 p2 p3 p4 p5 p6
  refine (check_ok s a cap ls _ HR.out (HX.out.after hbw) hl HW.out).mono ?_
  rintro e w1 ⟨rfl, hb1⟩
  obtain ⟨⟨o0, o1, o2, o3, o4, o5, o6⟩, f0, f1, f2, f3, f4, f5, f6⟩ := HO.out.after hb1
  obtain ⟨p0, p1, p2, p3, p4, p5, p6⟩ := HB.out.after hb1
  have hc := HC.out
  obtain ⟨E, hE⟩ : ∃ E, checkE s ls = E := ⟨_, rfl⟩
  rw [hE] at hc HE ⊢
  have HQ := Lib.hid hc
  have HEE := Lib.hid hE
  clear hE HC
  go_wp2_with fail
  refine bodyPost_ret (v := .tuple #[entV zero6 none 0 0, .int .i64 E]) ?_ rfl ?_
  · simp [results, Tryd.results10, go_sem, o0, o1, o2, o3, o4, o5, o6, entV, zero6]
  · have he : revErr s ls no = E := by rw [HE.out]; rw [if_neg HQ.out]
    exact ⟨below_set7 (hbw.trans (hb1.mono hbw.size)) (by have := HZA.out; omega) _ _ _ _ _ _ _, .inr ⟨by rw [he]; exact HQ.out, by rw [he]⟩⟩

set_option maxHeartbeats 2000000 in
theorem rev_2 (s : Six) (no : Int) (a : Option Addr) (cap : Nat) (ls : List Ln) (w : World) (hR : RulesAt w) (hx : LnAt w a ls) (hl : ls.length ≤ 1000000) (hw : AllWf ls) (ha : a = none → ls.length = 0 ∧ cap = 0) (hc : checkE s ls = 0) (h2 : s.ref ≠ -1) :
    Calls Tryd.prog 10 #[entV s a ls.length cap, .int .i64 no] w (RevEnd s ls no w) := by
  have HE : Hid (revErr s ls no = if checkE s ls = 0 then (if s.ref = -1 then (if no < 0 then 10 else 0) else 24) else checkE s ls) := rfl
  have HX := Lib.hid hx
  have HA := Lib.hid ha
  clear hx ha
  unfold entV
  obtain ⟨wa, hwa⟩ : ∃ wa, w.alloc (.cells (entCs s a ls.length cap) 26) = wa := ⟨_, rfl⟩
  have hba : Below w.heap.size w wa := by rw [← hwa]; exact (Below.refl _ _).alloc (Nat.le_refl _) _
  have hza : wa.heap.size = w.heap.size + 1 := by rw [← hwa]; simp
  have box1 : EBox wa w.heap.size s a ls.length cap := by rw [← hwa]; exact EBox.new _ _ _ _ _ _
  obtain ⟨wb, hwb⟩ : ∃ wb, wa.alloc (.cells (entCs zero6 none 0 0) 26) = wb := ⟨_, rfl⟩
  have hbb : Below wa.heap.size wa wb := by rw [← hwb]; exact (Below.refl _ _).alloc (Nat.le_refl _) _
  have hzb : wb.heap.size = wa.heap.size + 1 := by rw [← hwb]; simp
  have HO : Hid (OBox wb wa.heap.size) := by rw [← hwb]; exact OBox.new _ _
  have box1' := box1.after hbb
  have HB := Lib.hid box1'
  have hbw : Below w.heap.size w wb := hba.trans (hbb.mono (by omega))
  have HZA := Lib.hid hza
  have HZB := Lib.hid hzb
  have HR := Lib.hid (hR.after hbw)
  have HW := Lib.hid hw
  have HC := Lib.hid hc
  unfold entCs zero6 at hwb
  unfold entCs at hwa
  obtain ⟨p0, p1, p2, p3, p4, p5, p6⟩ := id box1'
  clear hza hzb box1 box1' hR hw hc
  go_enter Tryd.func10, Tryd.ntmps10
  go_wp2_with fail
  clear hwa hwb p0 p1 p2 p3 p4 p5 p6
  refine (check_ok s a cap ls _ HR.out (HX.out.after hbw) hl HW.out).mono ?_
  rintro e w1 ⟨rfl, hb1⟩
  obtain ⟨⟨o0, o1, o2, o3, o4, o5, o6⟩, f0, f1, f2, f3, f4, f5, f6⟩ := HO.out.after hb1
  obtain ⟨p0, p1, p2, p3, p4, p5, p6⟩ := HB.out.after hb1
  rw [HC.out]
  have H2 := Lib.hid h2
  go_wp2_with fail
  refine bodyPost_ret (v := .tuple #[entV zero6 none 0 0, .int .i64 24]) ?_ rfl ?_
  · simp [results, Tryd.results10, go_sem, o0, o1, o2, o3, o4, o5, o6, entV, zero6]
  · have he : revErr s ls no = 24 := by rw [HE.out]; rw [if_pos HC.out, if_neg H2.out]
    exact ⟨below_set7 (hbw.trans (hb1.mono hbw.size)) (by have := HZA.out; omega) _ _ _ _ _ _ _, .inr ⟨by rw [he]; decide, by rw [he]⟩⟩

set_option maxHeartbeats 2000000 in
theorem rev_3 (con day cur seq per : Int) (no : Int) (a : Option Addr) (cap : Nat) (ls : List Ln) (w : World) (hR : RulesAt w) (hx : LnAt w a ls) (hl : ls.length ≤ 1000000) (hw : AllWf ls) (ha : a = none → ls.length = 0 ∧ cap = 0) (hc : checkE (⟨con, day, cur, seq, per, -1⟩ : Six) ls = 0) (h3 : no < 0) :
    Calls Tryd.prog 10 #[entV (⟨con, day, cur, seq, per, -1⟩ : Six) a ls.length cap, .int .i64 no] w (RevEnd (⟨con, day, cur, seq, per, -1⟩ : Six) ls no w) := by
  have HE : Hid (revErr (⟨con, day, cur, seq, per, -1⟩ : Six) ls no = if checkE (⟨con, day, cur, seq, per, -1⟩ : Six) ls = 0 then (if (⟨con, day, cur, seq, per, -1⟩ : Six).ref = -1 then (if no < 0 then 10 else 0) else 24) else checkE (⟨con, day, cur, seq, per, -1⟩ : Six) ls) := rfl
  have HX := Lib.hid hx
  have HA := Lib.hid ha
  clear hx ha
  unfold entV
  obtain ⟨wa, hwa⟩ : ∃ wa, w.alloc (.cells (entCs (⟨con, day, cur, seq, per, -1⟩ : Six) a ls.length cap) 26) = wa := ⟨_, rfl⟩
  have hba : Below w.heap.size w wa := by rw [← hwa]; exact (Below.refl _ _).alloc (Nat.le_refl _) _
  have hza : wa.heap.size = w.heap.size + 1 := by rw [← hwa]; simp
  have box1 : EBox wa w.heap.size (⟨con, day, cur, seq, per, -1⟩ : Six) a ls.length cap := by rw [← hwa]; exact EBox.new _ _ _ _ _ _
  obtain ⟨wb, hwb⟩ : ∃ wb, wa.alloc (.cells (entCs zero6 none 0 0) 26) = wb := ⟨_, rfl⟩
  have hbb : Below wa.heap.size wa wb := by rw [← hwb]; exact (Below.refl _ _).alloc (Nat.le_refl _) _
  have hzb : wb.heap.size = wa.heap.size + 1 := by rw [← hwb]; simp
  have HO : Hid (OBox wb wa.heap.size) := by rw [← hwb]; exact OBox.new _ _
  have box1' := box1.after hbb
  have HB := Lib.hid box1'
  have hbw : Below w.heap.size w wb := hba.trans (hbb.mono (by omega))
  have HZA := Lib.hid hza
  have HZB := Lib.hid hzb
  have HR := Lib.hid (hR.after hbw)
  have HW := Lib.hid hw
  have HC := Lib.hid hc
  unfold entCs zero6 at hwb
  unfold entCs at hwa
  obtain ⟨p0, p1, p2, p3, p4, p5, p6⟩ := id box1'
  clear hza hzb box1 box1' hR hw hc
  go_enter Tryd.func10, Tryd.ntmps10
  go_wp2_with fail
  clear hwa hwb p0 p1 p2 p3 p4 p5 p6
  refine (check_ok (⟨con, day, cur, seq, per, -1⟩ : Six) a cap ls _ HR.out (HX.out.after hbw) hl HW.out).mono ?_
  rintro e w1 ⟨rfl, hb1⟩
  obtain ⟨⟨o0, o1, o2, o3, o4, o5, o6⟩, f0, f1, f2, f3, f4, f5, f6⟩ := HO.out.after hb1
  obtain ⟨p0, p1, p2, p3, p4, p5, p6⟩ := HB.out.after hb1
  rw [HC.out]
  have H3 := Lib.hid h3
  go_wp2_with fail
  refine bodyPost_ret (v := .tuple #[entV zero6 none 0 0, .int .i64 10]) ?_ rfl ?_
  · simp [results, Tryd.results10, go_sem, o0, o1, o2, o3, o4, o5, o6, entV, zero6]
  · have he : revErr (⟨con, day, cur, seq, per, -1⟩ : Six) ls no = 10 := by rw [HE.out]; rw [if_pos HC.out, if_pos trivial, if_pos H3.out]
    exact ⟨below_set7 (hbw.trans (hb1.mono hbw.size)) (by have := HZA.out; omega) _ _ _ _ _ _ _, .inr ⟨by rw [he]; decide, by rw [he]⟩⟩

set_option maxHeartbeats 4000000 in
theorem rev_4 (con day cur seq per : Int) (no : Int) (a : Option Addr) (cap : Nat) (ls : List Ln) (w : World) (hR : RulesAt w) (hx : LnAt w a ls) (hl : ls.length ≤ 1000000) (hw : AllWf ls) (ha : a = none → ls.length = 0 ∧ cap = 0) (hc : checkE (⟨con, day, cur, seq, per, -1⟩ : Six) ls = 0) (h3 : ¬ no < 0) :
    Calls Tryd.prog 10 #[entV (⟨con, day, cur, seq, per, -1⟩ : Six) a ls.length cap, .int .i64 no] w (RevEnd (⟨con, day, cur, seq, per, -1⟩ : Six) ls no w) := by
  have HE : Hid (revErr (⟨con, day, cur, seq, per, -1⟩ : Six) ls no = if checkE (⟨con, day, cur, seq, per, -1⟩ : Six) ls = 0 then (if (⟨con, day, cur, seq, per, -1⟩ : Six).ref = -1 then (if no < 0 then 10 else 0) else 24) else checkE (⟨con, day, cur, seq, per, -1⟩ : Six) ls) := rfl
  have HX := Lib.hid hx
  have HA := Lib.hid ha
  clear hx ha
  unfold entV
  obtain ⟨wa, hwa⟩ : ∃ wa, w.alloc (.cells (entCs (⟨con, day, cur, seq, per, -1⟩ : Six) a ls.length cap) 26) = wa := ⟨_, rfl⟩
  have hba : Below w.heap.size w wa := by rw [← hwa]; exact (Below.refl _ _).alloc (Nat.le_refl _) _
  have hza : wa.heap.size = w.heap.size + 1 := by rw [← hwa]; simp
  have box1 : EBox wa w.heap.size (⟨con, day, cur, seq, per, -1⟩ : Six) a ls.length cap := by rw [← hwa]; exact EBox.new _ _ _ _ _ _
  obtain ⟨wb, hwb⟩ : ∃ wb, wa.alloc (.cells (entCs zero6 none 0 0) 26) = wb := ⟨_, rfl⟩
  have hbb : Below wa.heap.size wa wb := by rw [← hwb]; exact (Below.refl _ _).alloc (Nat.le_refl _) _
  have hzb : wb.heap.size = wa.heap.size + 1 := by rw [← hwb]; simp
  have HO : Hid (OBox wb wa.heap.size) := by rw [← hwb]; exact OBox.new _ _
  have box1' := box1.after hbb
  have HB := Lib.hid box1'
  have hbw : Below w.heap.size w wb := hba.trans (hbb.mono (by omega))
  have HZA := Lib.hid hza
  have HZB := Lib.hid hzb
  have HR := Lib.hid (hR.after hbw)
  have HW := Lib.hid hw
  have HC := Lib.hid hc
  unfold entCs zero6 at hwb
  unfold entCs at hwa
  obtain ⟨p0, p1, p2, p3, p4, p5, p6⟩ := id box1'
  clear hza hzb box1 box1' hR hw hc
  go_enter Tryd.func10, Tryd.ntmps10
  go_wp2_with fail
  clear hwa hwb p0 p1 p2 p3 p4 p5 p6
  refine (check_ok (⟨con, day, cur, seq, per, -1⟩ : Six) a cap ls _ HR.out (HX.out.after hbw) hl HW.out).mono ?_
  rintro e w1 ⟨rfl, hb1⟩
  obtain ⟨⟨o0, o1, o2, o3, o4, o5, o6⟩, f0, f1, f2, f3, f4, f5, f6⟩ := HO.out.after hb1
  obtain ⟨p0, p1, p2, p3, p4, p5, p6⟩ := HB.out.after hb1
  rw [HC.out]
  have H3 := Lib.hid h3
  have HM := Lib.hid (fits_min (check_fits HC.out) HW.out)
  have hX1 := (HX.out.after hbw).after hb1
  have n0 : w.heap.size ≠ wa.heap.size := by have := HZA.out; omega
  have HO1 := Lib.hid (HO.out.after hb1)
  have HB1 := Lib.hid (HB.out.after hb1)
  go_wp2_with fail
  clear o0 o1 o2 o3 o4 o5 o6 f0 f1 f2 f3 f4 f5 f6 p3 p4 p5
  obtain ⟨d0, d1, d2, _, _, _, d6⟩ := HB1.out.after (Below.refl w1.heap.size w1).drew
  go_region_held3 (fun w' => w'.cell? ⟨w.heap.size, 0, none⟩ = some (.int .i64 con) ∧ w'.cell? ⟨w.heap.size, 1, none⟩ = some (.int .i64 day) ∧ w'.cell? ⟨w.heap.size, 2, none⟩ = some (.int .i64 cur) ∧ w'.cell? ⟨w.heap.size, 6, none⟩ = some (.slice a ls.length cap))
    (first | with_reducible exact ⟨p0, p1, p2, p6⟩
           | with_reducible exact ⟨d0, d1, d2, d6⟩
           | with_reducible exact ⟨q0, q1, q2, q6⟩
           | with_reducible exact ⟨far7 q0 n0, far7 q1 n0, far7 q2 n0, far7 q6 n0⟩)
    (first | (go_at_call 23; refine (turned_ok a cap ls _ (hX1.after (Below.refl w1.heap.size w1).drew) hl HA.out HM.out).mono ?_; rintro e w2 ⟨c, cc, rfl, g0, g1, g2, hb2⟩; have hbX : Below w1.heap.size w1 w2 := (Below.refl _ _).drew.trans hb2; obtain ⟨q0, q1, q2, _, _, _, q6⟩ := HB1.out.after hbX; obtain ⟨⟨o0, o1, o2, o3, o4, o5, o6⟩, f0, f1, f2, f3, f4, f5, f6⟩ := HO1.out.after hbX))
  go_wp2_with fail
  refine bodyPost_ret (v := .tuple #[entV ⟨con, day, cur, 0, 0, no⟩ c ls.length cc, .int .i64 0]) ?_ rfl ?_
  · simp [results, Tryd.results10, go_sem, o0, o1, o2, o3, o4, o5, o6, entV]
  · have he : revErr (⟨con, day, cur, seq, per, -1⟩ : Six) ls no = 0 := by rw [HE.out, if_pos HC.out, if_pos trivial, if_neg (by have := H3.out; omega)]
    have hbY : Below w.heap.size w w2 := (hbw.trans (hb1.mono hbw.size)).trans (hbX.mono (by have := hbw.size; have := hb1.size; omega))
    refine ⟨below_set7 hbY (by have := HZA.out; omega) _ _ _ _ _ _ _, .inl ⟨he, c, cc, rfl, g0, ?_, fun x e => by have := (g2 x e).1; have := hbw.size; have := hb1.size; simp at *; omega⟩⟩
    exact g1.grown (grown7 _ _ _ _ _ _ _ _ _) (fun x e q => by have := (g2 x e).1; have := hb1.size; have := HZB.out; have q' := Option.some.inj q; simp at *; omega)

theorem reverse_ok (s : Six) (no : Int) (a : Option Addr) (cap : Nat) (ls : List Ln) (w : World) (hR : RulesAt w) (hx : LnAt w a ls) (hl : ls.length ≤ 1000000) (hw : AllWf ls) (ha : a = none → ls.length = 0 ∧ cap = 0) :
    Calls Tryd.prog 10 #[entV s a ls.length cap, .int .i64 no] w (RevEnd s ls no w) := by
  by_cases hc : checkE s ls = 0
  · obtain ⟨con, day, cur, seq, per, ref⟩ := s
    by_cases h2 : ref = -1
    · subst h2
      by_cases h3 : no < 0
      · exact rev_3 con day cur seq per no a cap ls w hR hx hl hw ha hc h3
      · exact rev_4 con day cur seq per no a cap ls w hR hx hl hw ha hc h3
    · exact rev_2 _ no a cap ls w hR hx hl hw ha hc h2
  · exact rev_1 s no a cap ls w hR hx hl hw ha hc

end Go.Proofs.YtmjgcenhgpkhiaaDoor
