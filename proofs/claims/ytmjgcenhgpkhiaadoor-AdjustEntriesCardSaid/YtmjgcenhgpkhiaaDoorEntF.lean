/- Package entry: Same, Mirrors, Amount. -/
import Derived.Test.YtmjgcenhgpkhiaaDoorEntC
import Derived.Test.YtmjgcenhgpkhiaaDoorEntE
namespace Go.Proofs.YtmjgcenhgpkhiaaDoor
open Go.RowKit
set_option linter.unusedVariables false
set_option maxRecDepth 100000
set_option linter.unusedSimpArgs false

/-- An entry's first three numbers. -/
def Six.tag (s : Six) : Ln := ⟨s.con, s.day, s.cur⟩
def zero6 : Six := ⟨0, 0, 0, 0, 0, 0⟩

set_option maxHeartbeats 1000000 in
theorem same_zero (w : World) : Calls Tryd.prog 12 #[entV zero6 none 0 0, entV zero6 none 0 0] w fun e w' => e = .returned (.bool true) ∧ Below w.heap.size w w' := by
  unfold entV zero6
  have ht := tag_eq 0 0 0 0 0 0
  rw [show decide ((⟨0, 0, 0⟩ : Ln) = ⟨0, 0, 0⟩) = true from rfl] at ht
  go_enter Tryd.func12, Tryd.ntmps12
  go_wp2_with fail
  refine (equal_ok none none 0 0 [] [] _ (fun h => absurd h (by simp)) (fun h => absurd h (by simp)) (by simp) (by simp)).mono ?_
  rintro e w1 ⟨rfl, hb1⟩
  go_wp2_with fail
  go_ret
  exact ⟨rfl, (((Below.refl _ _).alloc (Nat.le_refl _) _).alloc (by simp) _).trans (hb1.mono (by simp; omega))⟩

set_option maxHeartbeats 1000000 in
theorem mirrors_ok (s t : Six) (a b : Option Addr) (ca cb : Nat) (xs ys : List Ln) (w : World) (htag : s.tag = t.tag) (hx : LnAt w a xs) (hy : LnAt w b ys) (hl : xs.length ≤ 1000000) (hm : ys.length ≤ 1000000)
    (ha : a = none → xs.length = 0 ∧ ca = 0) (hmin : ∀ l ∈ xs, -9223372036854775807 ≤ l.a ∧ l.a ≤ 9223372036854775807) :
    Calls Tryd.prog 63 #[entV s a xs.length ca, entV t b ys.length cb] w fun e w' => e = .returned (.bool (decide (xs.map Ln.neg = ys))) ∧ Below w.heap.size w w' := by
  have ht := tag_eq s.con s.day s.cur t.con t.day t.cur
  rw [show decide ((⟨s.con, s.day, s.cur⟩ : Ln) = ⟨t.con, t.day, t.cur⟩) = true from by rw [decide_eq_true_iff]; exact htag] at ht
  unfold entV
  obtain ⟨wa, hwa⟩ : ∃ wa, w.alloc (.cells (entCs s a xs.length ca) 26) = wa := ⟨_, rfl⟩
  have hba : Below w.heap.size w wa := by rw [← hwa]; exact (Below.refl _ _).alloc (Nat.le_refl _) _
  have hza : wa.heap.size = w.heap.size + 1 := by rw [← hwa]; simp
  have box1 : EBox wa w.heap.size s a xs.length ca := by rw [← hwa]; exact EBox.new _ _ _ _ _ _
  obtain ⟨wb, hwb⟩ : ∃ wb, wa.alloc (.cells (entCs t b ys.length cb) 26) = wb := ⟨_, rfl⟩
  have hbb : Below wa.heap.size wa wb := by rw [← hwb]; exact (Below.refl _ _).alloc (Nat.le_refl _) _
  have hzb : wb.heap.size = wa.heap.size + 1 := by rw [← hwb]; simp
  have box2 : EBox wb wa.heap.size t b ys.length cb := by rw [← hwb]; exact EBox.new _ _ _ _ _ _
  have hbw : Below w.heap.size w wb := hba.trans (hbb.mono (by omega))
  have box1' := box1.after hbb
  have HX := Lib.hid (hx.after hbw)
  have HY := Lib.hid (hy.after hbw)
  have HZA := Lib.hid hza
  have HZB := Lib.hid hzb
  have HM := Lib.hid hmin
  unfold entCs at hwa hwb
  clear hx hy htag hza hzb hmin
  go_enter Tryd.func63, Tryd.ntmps63
  go_wp2_with fail
  have hlen : (xs.map Ln.neg).length = xs.length := by simp
  have B1 := Lib.hid box1'
  have B2 := Lib.hid box2
  obtain ⟨p0, p1, p2, _, _, _, p6⟩ := id box1'
  obtain ⟨q0, q1, q2, _, _, _, q6⟩ := id box2
  clear hwa hwb box1 box1' box2
  go_region_held3 (fun w' => w'.cell? ⟨w.heap.size, 0, none⟩ = some (.int .i64 s.con) ∧ w'.cell? ⟨w.heap.size, 1, none⟩ = some (.int .i64 s.day) ∧ w'.cell? ⟨w.heap.size, 2, none⟩ = some (.int .i64 s.cur) ∧ w'.cell? ⟨w.heap.size, 6, none⟩ = some (.slice a xs.length ca)
      ∧ w'.cell? ⟨wa.heap.size, 0, none⟩ = some (.int .i64 t.con) ∧ w'.cell? ⟨wa.heap.size, 1, none⟩ = some (.int .i64 t.day) ∧ w'.cell? ⟨wa.heap.size, 2, none⟩ = some (.int .i64 t.cur) ∧ w'.cell? ⟨wa.heap.size, 6, none⟩ = some (.slice b ys.length cb) ∧ Below wb.heap.size wb w')
    (first | exact ⟨(B1.out.after hbY).c0, (B1.out.after hbY).c1, (B1.out.after hbY).c2, (B1.out.after hbY).c6, (B2.out.after hbY).c0, (B2.out.after hbY).c1, (B2.out.after hbY).c2, (B2.out.after hbY).c6, hbY⟩
            | exact ⟨(B1.out.after hbX).c0, (B1.out.after hbX).c1, (B1.out.after hbX).c2, (B1.out.after hbX).c6, (B2.out.after hbX).c0, (B2.out.after hbX).c1, (B2.out.after hbX).c2, (B2.out.after hbX).c6, hbX⟩
            | (have hbX := (Below.refl wb.heap.size wb).drew; exact ⟨(B1.out.after hbX).c0, (B1.out.after hbX).c1, (B1.out.after hbX).c2, (B1.out.after hbX).c6, (B2.out.after hbX).c0, (B2.out.after hbX).c1, (B2.out.after hbX).c2, (B2.out.after hbX).c6, hbX⟩))
    (first | (go_at_call 23; refine (turned_ok a ca xs _ (HX.out.after (Below.refl wb.heap.size wb).drew) hl ha HM.out).mono ?_; rintro e w1 ⟨c, cc, rfl, g0, g1, g2, hb1⟩; have hbX : Below wb.heap.size wb w1 := (Below.refl _ _).drew.trans hb1)
            | (go_at_call 26; have hq := equal_ok c b cc cb (xs.map Ln.neg) ys w1 g1 (HY.out.after hbX) (by rw [hlen]; exact hl) hm; rw [hlen] at hq; refine hq.mono ?_; rintro e w2 ⟨rfl, hb2⟩; have hbY : Below wb.heap.size wb w2 := hbX.trans (hb2.mono hbX.size)))
  go_wp2_with fail
  go_ret
  exact ⟨rfl, hbw.trans (hbY.mono (by have := HZA.out; have := HZB.out; omega))⟩

end Go.Proofs.YtmjgcenhgpkhiaaDoor
