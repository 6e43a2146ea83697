/- Package entry: Mirrors of any two, Same of one entry twice.  -/
import Derived.Test.YtpinhomalmknjaaDoorLgC
namespace Go.Proofs.YtpinhomalmknjaaDoor
open Go.RowKit Go.Sort Go.Shelf
set_option linter.unusedVariables false
set_option linter.unusedSimpArgs false

set_option maxHeartbeats 4000000 in
theorem mirrors_no (s t : Six) (a b : Option Addr) (ca cb n m : Nat) (w : World) (htag : s.tag ≠ t.tag) :
    Calls Tryd.prog 33 #[entV s a n ca, entV t b m cb] w fun e w' => e = .returned (.bool false) ∧ Below w.heap.size w w' := by
  have ht := tag_eq s.con s.day s.cur t.con t.day t.cur
  rw [show decide ((⟨s.con, s.day, s.cur⟩ : Ln) = ⟨t.con, t.day, t.cur⟩) = false from by rw [decide_eq_false_iff_not]; exact htag] at ht
  unfold entV
  obtain ⟨wa, hwa⟩ : ∃ wa, w.alloc (.cells (entCs s a n ca) 27) = wa := ⟨_, rfl⟩
  have hba : Below w.heap.size w wa := by rw [← hwa]; exact (Below.refl _ _).alloc (Nat.le_refl _) _
  have box1 : EBox wa w.heap.size s a n ca := by rw [← hwa]; exact EBox.new _ _ _ _ _ _
  obtain ⟨wb, hwb⟩ : ∃ wb, wa.alloc (.cells (entCs t b m cb) 27) = wb := ⟨_, rfl⟩
  have hbb : Below wa.heap.size wa wb := by rw [← hwb]; exact (Below.refl _ _).alloc (Nat.le_refl _) _
  have box2 : EBox wb wa.heap.size t b m cb := by rw [← hwb]; exact EBox.new _ _ _ _ _ _
  have HBW : Hid (Below w.heap.size w wb) := hba.trans (hbb.mono hba.size)
  have box1' := box1.after hbb
  have B1 := Lib.hid box1'
  have B2 := Lib.hid box2
  unfold entCs at hwa hwb
  clear htag hba hbb box1
  obtain ⟨p0, p1, p2, _, _, _, p6⟩ := id box1'
  obtain ⟨q0, q1, q2, _, _, _, q6⟩ := id box2
  clear box1' box2
  go_enter Tryd.func33, Tryd.ntmps33
  go_wp2_with (go_quiet (fail))
  go_ret
  exact ⟨rfl, HBW.out.trans (below_draws _ _ |>.mono HBW.out.size)⟩
theorem mirrors_any (x y : EnP) (a b : Option Addr) (ca cb : Nat) (w : World) (hx : EnOk w ⟨x.s, a, ca, x.ls⟩) (hy : EnOk w ⟨y.s, b, cb, y.ls⟩) (hc : checkE x.s x.ls = 0) :
    Calls Tryd.prog 33 #[entV x.s a x.ls.length ca, entV y.s b y.ls.length cb] w fun e w' => e = .returned (.bool (mirB x y)) ∧ Below w.heap.size w w' := by
  by_cases h : x.s.tag = y.s.tag
  · have := mirrors_ok x.s y.s a b ca cb x.ls y.ls w h hx.ln hy.ln (Nat.le_trans hx.few (by omega)) (Nat.le_trans hy.few (by omega)) (fun e => hx.nil e) (fits_min (check_fits hc) hx.wf)
    unfold mirB
    rw [decide_eq_true h, Bool.true_and]
    exact this
  · have := mirrors_no x.s y.s a b ca cb x.ls.length y.ls.length w h
    unfold mirB
    rw [decide_eq_false h, Bool.false_and]
    exact this

set_option maxHeartbeats 4000000 in
theorem same_yes (s : Six) (a b : Option Addr) (ca cb : Nat) (xs : List Ln) (w : World) (hx : LnAt w a xs) (hy : LnAt w b xs) (hl : xs.length ≤ 1000) :
    Calls Tryd.prog 26 #[entV s a xs.length ca, entV s b xs.length cb] w fun e w' => e = .returned (.bool true) ∧ Below w.heap.size w w' := by
  obtain ⟨con, day, cur, seq, per, ref⟩ := s
  have ht := tag_eq con day cur con day cur
  rw [show decide ((⟨con, day, cur⟩ : Ln) = ⟨con, day, cur⟩) = true from decide_eq_true rfl] at ht
  have e1 : (seq == seq) = true := beq_self_eq_true _
  have e2 : (per == per) = true := beq_self_eq_true _
  have e3 : (ref == ref) = true := beq_self_eq_true _
  unfold entV
  obtain ⟨wa, hwa⟩ : ∃ wa, w.alloc (.cells (entCs ⟨con, day, cur, seq, per, ref⟩ a xs.length ca) 27) = wa := ⟨_, rfl⟩
  have hba : Below w.heap.size w wa := by rw [← hwa]; exact (Below.refl _ _).alloc (Nat.le_refl _) _
  have box1 : EBox wa w.heap.size ⟨con, day, cur, seq, per, ref⟩ a xs.length ca := by rw [← hwa]; exact EBox.new _ _ _ _ _ _
  obtain ⟨wb, hwb⟩ : ∃ wb, wa.alloc (.cells (entCs ⟨con, day, cur, seq, per, ref⟩ b xs.length cb) 27) = wb := ⟨_, rfl⟩
  have hbb : Below wa.heap.size wa wb := by rw [← hwb]; exact (Below.refl _ _).alloc (Nat.le_refl _) _
  have box2 : EBox wb wa.heap.size ⟨con, day, cur, seq, per, ref⟩ b xs.length cb := by rw [← hwb]; exact EBox.new _ _ _ _ _ _
  have hbw : Below w.heap.size w wb := hba.trans (hbb.mono hba.size)
  have HBW := Lib.hid hbw
  have box1' := box1.after hbb
  have he := equal_ok a b ca cb xs xs wb (hx.after hbw) (hy.after hbw) (by omega) (by omega)
  rw [decide_eq_true rfl] at he
  have HE := Lib.hid he
  clear he
  unfold entCs at hwa hwb
  clear hba hbb box1 hbw hx hy
  obtain ⟨p0, p1, p2, p3, p4, p5, p6⟩ := id box1'
  obtain ⟨q0, q1, q2, q3, q4, q5, q6⟩ := id box2
  clear box1' box2
  dsimp only at p0 p1 p2 p3 p4 p5 p6 q0 q1 q2 q3 q4 q5 q6
  go_enter Tryd.func26, Tryd.ntmps26
  go_wp2_with fail
  with_reducible refine HE.out.mono ?_
  rintro e w1 ⟨rfl, hb1⟩
  go_wp2_with fail
  go_ret
  exact ⟨rfl, HBW.out.trans (hb1.mono HBW.out.size)⟩

end Go.Proofs.YtpinhomalmknjaaDoor
