/- Package entry: Amount, Flow. -/
import Derived.Test.YtmjgcenhgpkhiaaDoorMgB
namespace Go.Proofs.YtmjgcenhgpkhiaaDoor
open Go.RowKit
set_option linter.unusedVariables false
set_option maxRecDepth 100000
set_option linter.unusedSimpArgs false

/-- What is wrong with a flow. -/
def flowErr (con day cur a h v : Int) : Int :=
  if tagOk con day cur then (if belowB h 16 then (if belowB v 16 then (if h = v then 1 else if a = 0 then 12 else if a = -9223372036854775808 then 11 else 0) else 10) else 10) else 10

/-- A box for an answer, not yet written. -/
structure OBox (w : World) (B : Nat) : Prop where
  e : EBox w B zero6 none 0 0
  f0 : w.frozen? ⟨B, 0, none⟩ = false
  f1 : w.frozen? ⟨B, 1, none⟩ = false
  f2 : w.frozen? ⟨B, 2, none⟩ = false
  f3 : w.frozen? ⟨B, 3, none⟩ = false
  f4 : w.frozen? ⟨B, 4, none⟩ = false
  f5 : w.frozen? ⟨B, 5, none⟩ = false
  f6 : w.frozen? ⟨B, 6, none⟩ = false
theorem OBox.grown {w w' : World} {row : Option Nat} {B : Nat} (h : OBox w B) (hg : w.grownBy w' row) (hr : row ≠ some B) : OBox w' B :=
  ⟨h.e.grown hg hr, grown_frozen hg h.e.c0 h.f0 hr, grown_frozen hg h.e.c1 h.f1 hr, grown_frozen hg h.e.c2 h.f2 hr, grown_frozen hg h.e.c3 h.f3 hr, grown_frozen hg h.e.c4 h.f4 hr, grown_frozen hg h.e.c5 h.f5 hr, grown_frozen hg h.e.c6 h.f6 hr⟩
theorem OBox.after {w w' : World} {B : Nat} (h : OBox w B) (hb : Below w.heap.size w w') : OBox w' B := h.grown (below_row hb none) (by simp)
theorem OBox.new (w : World) (t : TypeId) : OBox (w.alloc (.cells (entCs zero6 none 0 0) t)) w.heap.size :=
  ⟨EBox.new _ _ _ _ _ _, by go_simp, by go_simp, by go_simp, by go_simp, by go_simp, by go_simp, by go_simp⟩

def FlowEnd (con day cur a h v : Int) (w : World) (e : Ending) (w' : World) : Prop :=
  Below w.heap.size w w' ∧ ((flowErr con day cur a h v = 0 ∧ ∃ c, e = .returned (.tuple #[entV ⟨con, day, cur, 0, 0, -1⟩ (some ⟨c, 0, none⟩) 2 2, .int .i64 0]) ∧ LnAt w' (some ⟨c, 0, none⟩) [⟨h, cur, a⟩, ⟨v, cur, -a⟩] ∧ w.heap.size ≤ c)
    ∨ (flowErr con day cur a h v ≠ 0 ∧ e = .returned (.tuple #[entV zero6 none 0 0, .int .i64 (flowErr con day cur a h v)])))

theorem below_set7 {B : Nat} {a w : World} (h : Below B a w) {b : Nat} (hb : B ≤ b) (v0 v1 v2 v3 v4 v5 v6 : Value) :
    Below B a (((((((w.setCell ⟨b, 0, none⟩ v0).setCell ⟨b, 1, none⟩ v1).setCell ⟨b, 2, none⟩ v2).setCell ⟨b, 3, none⟩ v3).setCell ⟨b, 4, none⟩ v4).setCell ⟨b, 5, none⟩ v5).setCell ⟨b, 6, none⟩ v6) :=
  ((((((h.setCell (p := ⟨b, 0, none⟩) hb _).setCell (p := ⟨b, 1, none⟩) hb _).setCell (p := ⟨b, 2, none⟩) hb _).setCell (p := ⟨b, 3, none⟩) hb _).setCell (p := ⟨b, 4, none⟩) hb _).setCell (p := ⟨b, 5, none⟩) hb _).setCell (p := ⟨b, 6, none⟩) hb _


set_option maxHeartbeats 2000000 in
theorem flow_1 (con day cur a h v : Int) (w : World) (h1 : tagOk con day cur = false) :
    Calls Tryd.prog 11 #[.agg #[.int .i64 con, .int .i64 day, .int .i64 cur], .int .i64 a, .int .i64 h, .int .i64 v] w (FlowEnd con day cur a h v w) := by
  have HE : Hid (flowErr con day cur a h v = if tagOk con day cur then (if belowB h 16 then (if belowB v 16 then (if h = v then 1 else if a = 0 then 12 else if a = -9223372036854775808 then 11 else 0) else 10) else 10) else 10) := rfl
  obtain ⟨wa, hwa⟩ : ∃ wa, w.alloc (.cells #[.int .i64 con, .int .i64 day, .int .i64 cur] 23) = wa := ⟨_, rfl⟩
  have hba : Below w.heap.size w wa := by rw [← hwa]; exact (Below.refl _ _).alloc (Nat.le_refl _) _
  have hza : wa.heap.size = w.heap.size + 1 := by rw [← hwa]; simp
  have t0 : wa.cell? ⟨w.heap.size, 0, none⟩ = some (.int .i64 con) := by rw [← hwa]; exact World.cell?_alloc_new _ _ _ 0
  have t1 : wa.cell? ⟨w.heap.size, 1, none⟩ = some (.int .i64 day) := by rw [← hwa]; exact World.cell?_alloc_new _ _ _ 1
  have t2 : wa.cell? ⟨w.heap.size, 2, none⟩ = some (.int .i64 cur) := by rw [← hwa]; exact World.cell?_alloc_new _ _ _ 2
  obtain ⟨wb, hwb⟩ : ∃ wb, wa.alloc (.cells (entCs zero6 none 0 0) 26) = wb := ⟨_, rfl⟩
  have hbb : Below wa.heap.size wa wb := by rw [← hwb]; exact (Below.refl _ _).alloc (Nat.le_refl _) _
  have hzb : wb.heap.size = wa.heap.size + 1 := by rw [← hwb]; simp
  have HO : Hid (OBox wb wa.heap.size) := by rw [← hwb]; exact OBox.new _ _
  have T0 := Lib.hid (below_cell hbb t0)
  have T1 := Lib.hid (below_cell hbb t1)
  have T2 := Lib.hid (below_cell hbb t2)
  replace t0 := T0.out
  replace t1 := T1.out
  replace t2 := T2.out
  have hbw : Below w.heap.size w wb := hba.trans (hbb.mono (by omega))
  have HZA := Lib.hid hza
  have HZB := Lib.hid hzb
  clear hza hzb
  unfold entCs zero6 at hwb
  have hz : (0 : Int) = 0 := rfl
  have H1 := Lib.hid h1
  rw [h1] at HE
  clear h1
  go_enter Tryd.func11, Tryd.ntmps11
  go_wp2_with fail
  clear hwa hwb
  refine (tag_may con day cur _).mono ?_
  rintro e w1 ⟨rfl, hb1⟩
  rw [H1.out]
  have o1 := HO.out.after hb1
  obtain ⟨⟨o0, o1, o2, o3, o4, o5, o6⟩, f0, f1, f2, f3, f4, f5, f6⟩ := o1
  have t0 := below_cell hb1 T0.out
  have t1 := below_cell hb1 T1.out
  have t2 := below_cell hb1 T2.out
  go_wp2_with fail
  refine bodyPost_ret (v := .tuple #[entV zero6 none 0 0, .int .i64 10]) ?_ rfl ?_
  · simp [results, Tryd.results11, go_sem, o0, o1, o2, o3, o4, o5, o6, entV, zero6]
  · have he : flowErr con day cur a h v = 10 := by rw [HE.out]; rfl
    exact ⟨below_set7 (hbw.trans (hb1.mono hbw.size)) (by have := HZA.out; omega) _ _ _ _ _ _ _, .inr ⟨by rw [he]; decide, by rw [he]⟩⟩

set_option maxHeartbeats 2000000 in
theorem flow_2 (con day cur a h v : Int) (w : World) (h1 : tagOk con day cur = true) (h2 : belowB h 16 = false) :
    Calls Tryd.prog 11 #[.agg #[.int .i64 con, .int .i64 day, .int .i64 cur], .int .i64 a, .int .i64 h, .int .i64 v] w (FlowEnd con day cur a h v w) := by
  have HE : Hid (flowErr con day cur a h v = if tagOk con day cur then (if belowB h 16 then (if belowB v 16 then (if h = v then 1 else if a = 0 then 12 else if a = -9223372036854775808 then 11 else 0) else 10) else 10) else 10) := rfl
  obtain ⟨wa, hwa⟩ : ∃ wa, w.alloc (.cells #[.int .i64 con, .int .i64 day, .int .i64 cur] 23) = wa := ⟨_, rfl⟩
  have hba : Below w.heap.size w wa := by rw [← hwa]; exact (Below.refl _ _).alloc (Nat.le_refl _) _
  have hza : wa.heap.size = w.heap.size + 1 := by rw [← hwa]; simp
  have t0 : wa.cell? ⟨w.heap.size, 0, none⟩ = some (.int .i64 con) := by rw [← hwa]; exact World.cell?_alloc_new _ _ _ 0
  have t1 : wa.cell? ⟨w.heap.size, 1, none⟩ = some (.int .i64 day) := by rw [← hwa]; exact World.cell?_alloc_new _ _ _ 1
  have t2 : wa.cell? ⟨w.heap.size, 2, none⟩ = some (.int .i64 cur) := by rw [← hwa]; exact World.cell?_alloc_new _ _ _ 2
  obtain ⟨wb, hwb⟩ : ∃ wb, wa.alloc (.cells (entCs zero6 none 0 0) 26) = wb := ⟨_, rfl⟩
  have hbb : Below wa.heap.size wa wb := by rw [← hwb]; exact (Below.refl _ _).alloc (Nat.le_refl _) _
  have hzb : wb.heap.size = wa.heap.size + 1 := by rw [← hwb]; simp
  have HO : Hid (OBox wb wa.heap.size) := by rw [← hwb]; exact OBox.new _ _
  have T0 := Lib.hid (below_cell hbb t0)
  have T1 := Lib.hid (below_cell hbb t1)
  have T2 := Lib.hid (below_cell hbb t2)
  replace t0 := T0.out
  replace t1 := T1.out
  replace t2 := T2.out
  have hbw : Below w.heap.size w wb := hba.trans (hbb.mono (by omega))
  have HZA := Lib.hid hza
  have HZB := Lib.hid hzb
  clear hza hzb
  unfold entCs zero6 at hwb
  have hz : (0 : Int) = 0 := rfl
  have H1 := Lib.hid h1
  rw [h1] at HE
  clear h1
  have H2 := Lib.hid h2
  rw [h2] at HE
  clear h2
  go_enter Tryd.func11, Tryd.ntmps11
  go_wp2_with fail
  clear hwa hwb
  refine (tag_may con day cur _).mono ?_
  rintro e w1 ⟨rfl, hb1⟩
  rw [H1.out]
  have o1 := HO.out.after hb1
  obtain ⟨⟨o0, o1, o2, o3, o4, o5, o6⟩, f0, f1, f2, f3, f4, f5, f6⟩ := o1
  have t0 := below_cell hb1 T0.out
  have t1 := below_cell hb1 T1.out
  have t2 := below_cell hb1 T2.out
  go_wp2_with fail
  refine (below_ok h 16 _).mono ?_
  rintro e w2 ⟨rfl, rfl⟩
  rw [H2.out]
  go_wp2_with fail
  refine bodyPost_ret (v := .tuple #[entV zero6 none 0 0, .int .i64 10]) ?_ rfl ?_
  · simp [results, Tryd.results11, go_sem, o0, o1, o2, o3, o4, o5, o6, entV, zero6]
  · have he : flowErr con day cur a h v = 10 := by rw [HE.out]; rfl
    exact ⟨below_set7 (hbw.trans (hb1.mono hbw.size)) (by have := HZA.out; omega) _ _ _ _ _ _ _, .inr ⟨by rw [he]; decide, by rw [he]⟩⟩

set_option maxHeartbeats 2000000 in
theorem flow_3 (con day cur a h v : Int) (w : World) (h1 : tagOk con day cur = true) (h2 : belowB h 16 = true) (h3 : belowB v 16 = false) :
    Calls Tryd.prog 11 #[.agg #[.int .i64 con, .int .i64 day, .int .i64 cur], .int .i64 a, .int .i64 h, .int .i64 v] w (FlowEnd con day cur a h v w) := by
  have HE : Hid (flowErr con day cur a h v = if tagOk con day cur then (if belowB h 16 then (if belowB v 16 then (if h = v then 1 else if a = 0 then 12 else if a = -9223372036854775808 then 11 else 0) else 10) else 10) else 10) := rfl
  obtain ⟨wa, hwa⟩ : ∃ wa, w.alloc (.cells #[.int .i64 con, .int .i64 day, .int .i64 cur] 23) = wa := ⟨_, rfl⟩
  have hba : Below w.heap.size w wa := by rw [← hwa]; exact (Below.refl _ _).alloc (Nat.le_refl _) _
  have hza : wa.heap.size = w.heap.size + 1 := by rw [← hwa]; simp
  have t0 : wa.cell? ⟨w.heap.size, 0, none⟩ = some (.int .i64 con) := by rw [← hwa]; exact World.cell?_alloc_new _ _ _ 0
  have t1 : wa.cell? ⟨w.heap.size, 1, none⟩ = some (.int .i64 day) := by rw [← hwa]; exact World.cell?_alloc_new _ _ _ 1
  have t2 : wa.cell? ⟨w.heap.size, 2, none⟩ = some (.int .i64 cur) := by rw [← hwa]; exact World.cell?_alloc_new _ _ _ 2
  obtain ⟨wb, hwb⟩ : ∃ wb, wa.alloc (.cells (entCs zero6 none 0 0) 26) = wb := ⟨_, rfl⟩
  have hbb : Below wa.heap.size wa wb := by rw [← hwb]; exact (Below.refl _ _).alloc (Nat.le_refl _) _
  have hzb : wb.heap.size = wa.heap.size + 1 := by rw [← hwb]; simp
  have HO : Hid (OBox wb wa.heap.size) := by rw [← hwb]; exact OBox.new _ _
  have T0 := Lib.hid (below_cell hbb t0)
  have T1 := Lib.hid (below_cell hbb t1)
  have T2 := Lib.hid (below_cell hbb t2)
  replace t0 := T0.out
  replace t1 := T1.out
  replace t2 := T2.out
  have hbw : Below w.heap.size w wb := hba.trans (hbb.mono (by omega))
  have HZA := Lib.hid hza
  have HZB := Lib.hid hzb
  clear hza hzb
  unfold entCs zero6 at hwb
  have hz : (0 : Int) = 0 := rfl
  have H1 := Lib.hid h1
  rw [h1] at HE
  clear h1
  have H2 := Lib.hid h2
  rw [h2] at HE
  clear h2
  have H3 := Lib.hid h3
  rw [h3] at HE
  clear h3
  go_enter Tryd.func11, Tryd.ntmps11
  go_wp2_with fail
  clear hwa hwb
  refine (tag_may con day cur _).mono ?_
  rintro e w1 ⟨rfl, hb1⟩
  rw [H1.out]
  have o1 := HO.out.after hb1
  obtain ⟨⟨o0, o1, o2, o3, o4, o5, o6⟩, f0, f1, f2, f3, f4, f5, f6⟩ := o1
  have t0 := below_cell hb1 T0.out
  have t1 := below_cell hb1 T1.out
  have t2 := below_cell hb1 T2.out
  go_wp2_with fail
  refine (below_ok h 16 _).mono ?_
  rintro e w2 ⟨rfl, rfl⟩
  rw [H2.out]
  go_wp2_with fail
  refine (below_ok v 16 _).mono ?_
  rintro e w2 ⟨rfl, rfl⟩
  rw [H3.out]
  go_wp2_with fail
  refine bodyPost_ret (v := .tuple #[entV zero6 none 0 0, .int .i64 10]) ?_ rfl ?_
  · simp [results, Tryd.results11, go_sem, o0, o1, o2, o3, o4, o5, o6, entV, zero6]
  · have he : flowErr con day cur a h v = 10 := by rw [HE.out]; rfl
    exact ⟨below_set7 (hbw.trans (hb1.mono hbw.size)) (by have := HZA.out; omega) _ _ _ _ _ _ _, .inr ⟨by rw [he]; decide, by rw [he]⟩⟩

set_option maxHeartbeats 2000000 in
theorem flow_4 (con day cur a h : Int) (w : World) (h1 : tagOk con day cur = true) (h2 : belowB h 16 = true)  :
    Calls Tryd.prog 11 #[.agg #[.int .i64 con, .int .i64 day, .int .i64 cur], .int .i64 a, .int .i64 h, .int .i64 h] w (FlowEnd con day cur a h h w) := by
  have HE : Hid (flowErr con day cur a h h = if tagOk con day cur then (if belowB h 16 then (if belowB h 16 then (if h = h then 1 else if a = 0 then 12 else if a = -9223372036854775808 then 11 else 0) else 10) else 10) else 10) := rfl
  obtain ⟨wa, hwa⟩ : ∃ wa, w.alloc (.cells #[.int .i64 con, .int .i64 day, .int .i64 cur] 23) = wa := ⟨_, rfl⟩
  have hba : Below w.heap.size w wa := by rw [← hwa]; exact (Below.refl _ _).alloc (Nat.le_refl _) _
  have hza : wa.heap.size = w.heap.size + 1 := by rw [← hwa]; simp
  have t0 : wa.cell? ⟨w.heap.size, 0, none⟩ = some (.int .i64 con) := by rw [← hwa]; exact World.cell?_alloc_new _ _ _ 0
  have t1 : wa.cell? ⟨w.heap.size, 1, none⟩ = some (.int .i64 day) := by rw [← hwa]; exact World.cell?_alloc_new _ _ _ 1
  have t2 : wa.cell? ⟨w.heap.size, 2, none⟩ = some (.int .i64 cur) := by rw [← hwa]; exact World.cell?_alloc_new _ _ _ 2
  obtain ⟨wb, hwb⟩ : ∃ wb, wa.alloc (.cells (entCs zero6 none 0 0) 26) = wb := ⟨_, rfl⟩
  have hbb : Below wa.heap.size wa wb := by rw [← hwb]; exact (Below.refl _ _).alloc (Nat.le_refl _) _
  have hzb : wb.heap.size = wa.heap.size + 1 := by rw [← hwb]; simp
  have HO : Hid (OBox wb wa.heap.size) := by rw [← hwb]; exact OBox.new _ _
  have T0 := Lib.hid (below_cell hbb t0)
  have T1 := Lib.hid (below_cell hbb t1)
  have T2 := Lib.hid (below_cell hbb t2)
  replace t0 := T0.out
  replace t1 := T1.out
  replace t2 := T2.out
  have hbw : Below w.heap.size w wb := hba.trans (hbb.mono (by omega))
  have HZA := Lib.hid hza
  have HZB := Lib.hid hzb
  clear hza hzb
  unfold entCs zero6 at hwb
  have hz : (0 : Int) = 0 := rfl
  have H1 := Lib.hid h1
  rw [h1] at HE
  clear h1
  have H2 := Lib.hid h2
  rw [h2] at HE
  clear h2
  go_enter Tryd.func11, Tryd.ntmps11
  go_wp2_with fail
  clear hwa hwb
  refine (tag_may con day cur _).mono ?_
  rintro e w1 ⟨rfl, hb1⟩
  rw [H1.out]
  have o1 := HO.out.after hb1
  obtain ⟨⟨o0, o1, o2, o3, o4, o5, o6⟩, f0, f1, f2, f3, f4, f5, f6⟩ := o1
  have t0 := below_cell hb1 T0.out
  have t1 := below_cell hb1 T1.out
  have t2 := below_cell hb1 T2.out
  go_wp2_with fail
  refine (below_ok h 16 _).mono ?_
  rintro e w2 ⟨rfl, rfl⟩
  rw [H2.out]
  go_wp2_with fail
  refine (below_ok h 16 _).mono ?_
  rintro e w2 ⟨rfl, rfl⟩
  rw [H2.out]
  go_wp2_with fail
  refine bodyPost_ret (v := .tuple #[entV zero6 none 0 0, .int .i64 1]) ?_ rfl ?_
  · simp [results, Tryd.results11, go_sem, o0, o1, o2, o3, o4, o5, o6, entV, zero6]
  · have he : flowErr con day cur a h h = 1 := by rw [HE.out]; simp
    exact ⟨below_set7 (hbw.trans (hb1.mono hbw.size)) (by have := HZA.out; omega) _ _ _ _ _ _ _, .inr ⟨by rw [he]; decide, by rw [he]⟩⟩

set_option maxHeartbeats 2000000 in
theorem flow_5 (con day cur a h v : Int) (w : World) (h1 : tagOk con day cur = true) (h2 : belowB h 16 = true) (h3 : belowB v 16 = true) (e1 : h ≠ v) (e2 : a = 0) :
    Calls Tryd.prog 11 #[.agg #[.int .i64 con, .int .i64 day, .int .i64 cur], .int .i64 a, .int .i64 h, .int .i64 v] w (FlowEnd con day cur a h v w) := by
  have HE : Hid (flowErr con day cur a h v = if tagOk con day cur then (if belowB h 16 then (if belowB v 16 then (if h = v then 1 else if a = 0 then 12 else if a = -9223372036854775808 then 11 else 0) else 10) else 10) else 10) := rfl
  obtain ⟨wa, hwa⟩ : ∃ wa, w.alloc (.cells #[.int .i64 con, .int .i64 day, .int .i64 cur] 23) = wa := ⟨_, rfl⟩
  have hba : Below w.heap.size w wa := by rw [← hwa]; exact (Below.refl _ _).alloc (Nat.le_refl _) _
  have hza : wa.heap.size = w.heap.size + 1 := by rw [← hwa]; simp
  have t0 : wa.cell? ⟨w.heap.size, 0, none⟩ = some (.int .i64 con) := by rw [← hwa]; exact World.cell?_alloc_new _ _ _ 0
  have t1 : wa.cell? ⟨w.heap.size, 1, none⟩ = some (.int .i64 day) := by rw [← hwa]; exact World.cell?_alloc_new _ _ _ 1
  have t2 : wa.cell? ⟨w.heap.size, 2, none⟩ = some (.int .i64 cur) := by rw [← hwa]; exact World.cell?_alloc_new _ _ _ 2
  obtain ⟨wb, hwb⟩ : ∃ wb, wa.alloc (.cells (entCs zero6 none 0 0) 26) = wb := ⟨_, rfl⟩
  have hbb : Below wa.heap.size wa wb := by rw [← hwb]; exact (Below.refl _ _).alloc (Nat.le_refl _) _
  have hzb : wb.heap.size = wa.heap.size + 1 := by rw [← hwb]; simp
  have HO : Hid (OBox wb wa.heap.size) := by rw [← hwb]; exact OBox.new _ _
  have T0 := Lib.hid (below_cell hbb t0)
  have T1 := Lib.hid (below_cell hbb t1)
  have T2 := Lib.hid (below_cell hbb t2)
  replace t0 := T0.out
  replace t1 := T1.out
  replace t2 := T2.out
  have hbw : Below w.heap.size w wb := hba.trans (hbb.mono (by omega))
  have HZA := Lib.hid hza
  have HZB := Lib.hid hzb
  clear hza hzb
  unfold entCs zero6 at hwb
  have hz : (0 : Int) = 0 := rfl
  have H1 := Lib.hid h1
  rw [h1] at HE
  clear h1
  have H2 := Lib.hid h2
  rw [h2] at HE
  clear h2
  have H3 := Lib.hid h3
  rw [h3] at HE
  clear h3
  have E1 := Lib.hid e1
  have E2 := Lib.hid e2
  go_enter Tryd.func11, Tryd.ntmps11
  go_wp2_with fail
  clear hwa hwb
  refine (tag_may con day cur _).mono ?_
  rintro e w1 ⟨rfl, hb1⟩
  rw [H1.out]
  have o1 := HO.out.after hb1
  obtain ⟨⟨o0, o1, o2, o3, o4, o5, o6⟩, f0, f1, f2, f3, f4, f5, f6⟩ := o1
  have t0 := below_cell hb1 T0.out
  have t1 := below_cell hb1 T1.out
  have t2 := below_cell hb1 T2.out
  go_wp2_with fail
  refine (below_ok h 16 _).mono ?_
  rintro e w2 ⟨rfl, rfl⟩
  rw [H2.out]
  go_wp2_with fail
  refine (below_ok v 16 _).mono ?_
  rintro e w2 ⟨rfl, rfl⟩
  rw [H3.out]
  go_wp2_with fail
  refine bodyPost_ret (v := .tuple #[entV zero6 none 0 0, .int .i64 12]) ?_ rfl ?_
  · simp [results, Tryd.results11, go_sem, o0, o1, o2, o3, o4, o5, o6, entV, zero6]
  · have he : flowErr con day cur a h v = 12 := by rw [HE.out]; simp [E1.out, E2.out]
    exact ⟨below_set7 (hbw.trans (hb1.mono hbw.size)) (by have := HZA.out; omega) _ _ _ _ _ _ _, .inr ⟨by rw [he]; decide, by rw [he]⟩⟩

set_option maxHeartbeats 2000000 in
theorem flow_6 (con day cur a h v : Int) (w : World) (h1 : tagOk con day cur = true) (h2 : belowB h 16 = true) (h3 : belowB v 16 = true) (e1 : h ≠ v) (e2 : a = -9223372036854775808) :
    Calls Tryd.prog 11 #[.agg #[.int .i64 con, .int .i64 day, .int .i64 cur], .int .i64 a, .int .i64 h, .int .i64 v] w (FlowEnd con day cur a h v w) := by
  have HE : Hid (flowErr con day cur a h v = if tagOk con day cur then (if belowB h 16 then (if belowB v 16 then (if h = v then 1 else if a = 0 then 12 else if a = -9223372036854775808 then 11 else 0) else 10) else 10) else 10) := rfl
  obtain ⟨wa, hwa⟩ : ∃ wa, w.alloc (.cells #[.int .i64 con, .int .i64 day, .int .i64 cur] 23) = wa := ⟨_, rfl⟩
  have hba : Below w.heap.size w wa := by rw [← hwa]; exact (Below.refl _ _).alloc (Nat.le_refl _) _
  have hza : wa.heap.size = w.heap.size + 1 := by rw [← hwa]; simp
  have t0 : wa.cell? ⟨w.heap.size, 0, none⟩ = some (.int .i64 con) := by rw [← hwa]; exact World.cell?_alloc_new _ _ _ 0
  have t1 : wa.cell? ⟨w.heap.size, 1, none⟩ = some (.int .i64 day) := by rw [← hwa]; exact World.cell?_alloc_new _ _ _ 1
  have t2 : wa.cell? ⟨w.heap.size, 2, none⟩ = some (.int .i64 cur) := by rw [← hwa]; exact World.cell?_alloc_new _ _ _ 2
  obtain ⟨wb, hwb⟩ : ∃ wb, wa.alloc (.cells (entCs zero6 none 0 0) 26) = wb := ⟨_, rfl⟩
  have hbb : Below wa.heap.size wa wb := by rw [← hwb]; exact (Below.refl _ _).alloc (Nat.le_refl _) _
  have hzb : wb.heap.size = wa.heap.size + 1 := by rw [← hwb]; simp
  have HO : Hid (OBox wb wa.heap.size) := by rw [← hwb]; exact OBox.new _ _
  have T0 := Lib.hid (below_cell hbb t0)
  have T1 := Lib.hid (below_cell hbb t1)
  have T2 := Lib.hid (below_cell hbb t2)
  replace t0 := T0.out
  replace t1 := T1.out
  replace t2 := T2.out
  have hbw : Below w.heap.size w wb := hba.trans (hbb.mono (by omega))
  have HZA := Lib.hid hza
  have HZB := Lib.hid hzb
  clear hza hzb
  unfold entCs zero6 at hwb
  have hz : (0 : Int) = 0 := rfl
  have H1 := Lib.hid h1
  rw [h1] at HE
  clear h1
  have H2 := Lib.hid h2
  rw [h2] at HE
  clear h2
  have H3 := Lib.hid h3
  rw [h3] at HE
  clear h3
  have E1 := Lib.hid e1
  have E2 := Lib.hid e2
  go_enter Tryd.func11, Tryd.ntmps11
  go_wp2_with fail
  clear hwa hwb
  refine (tag_may con day cur _).mono ?_
  rintro e w1 ⟨rfl, hb1⟩
  rw [H1.out]
  have o1 := HO.out.after hb1
  obtain ⟨⟨o0, o1, o2, o3, o4, o5, o6⟩, f0, f1, f2, f3, f4, f5, f6⟩ := o1
  have t0 := below_cell hb1 T0.out
  have t1 := below_cell hb1 T1.out
  have t2 := below_cell hb1 T2.out
  go_wp2_with fail
  refine (below_ok h 16 _).mono ?_
  rintro e w2 ⟨rfl, rfl⟩
  rw [H2.out]
  go_wp2_with fail
  refine (below_ok v 16 _).mono ?_
  rintro e w2 ⟨rfl, rfl⟩
  rw [H3.out]
  go_wp2_with fail
  refine bodyPost_ret (v := .tuple #[entV zero6 none 0 0, .int .i64 11]) ?_ rfl ?_
  · simp [results, Tryd.results11, go_sem, o0, o1, o2, o3, o4, o5, o6, entV, zero6]
  · have he : flowErr con day cur a h v = 11 := by rw [HE.out]; simp [E1.out, E2.out]
    exact ⟨below_set7 (hbw.trans (hb1.mono hbw.size)) (by have := HZA.out; omega) _ _ _ _ _ _ _, .inr ⟨by rw [he]; decide, by rw [he]⟩⟩

set_option maxHeartbeats 2000000 in
theorem flow_7 (con day cur a h v : Int) (w : World) (h1 : tagOk con day cur = true) (h2 : belowB h 16 = true) (h3 : belowB v 16 = true) (e1 : h ≠ v) (e2 : a ≠ 0) (e3 : -9223372036854775807 ≤ a) (e4 : a ≤ 9223372036854775807) :
    Calls Tryd.prog 11 #[.agg #[.int .i64 con, .int .i64 day, .int .i64 cur], .int .i64 a, .int .i64 h, .int .i64 v] w (FlowEnd con day cur a h v w) := by
  have HE : Hid (flowErr con day cur a h v = if tagOk con day cur then (if belowB h 16 then (if belowB v 16 then (if h = v then 1 else if a = 0 then 12 else if a = -9223372036854775808 then 11 else 0) else 10) else 10) else 10) := rfl
  obtain ⟨wa, hwa⟩ : ∃ wa, w.alloc (.cells #[.int .i64 con, .int .i64 day, .int .i64 cur] 23) = wa := ⟨_, rfl⟩
  have hba : Below w.heap.size w wa := by rw [← hwa]; exact (Below.refl _ _).alloc (Nat.le_refl _) _
  have hza : wa.heap.size = w.heap.size + 1 := by rw [← hwa]; simp
  have t0 : wa.cell? ⟨w.heap.size, 0, none⟩ = some (.int .i64 con) := by rw [← hwa]; exact World.cell?_alloc_new _ _ _ 0
  have t1 : wa.cell? ⟨w.heap.size, 1, none⟩ = some (.int .i64 day) := by rw [← hwa]; exact World.cell?_alloc_new _ _ _ 1
  have t2 : wa.cell? ⟨w.heap.size, 2, none⟩ = some (.int .i64 cur) := by rw [← hwa]; exact World.cell?_alloc_new _ _ _ 2
  obtain ⟨wb, hwb⟩ : ∃ wb, wa.alloc (.cells (entCs zero6 none 0 0) 26) = wb := ⟨_, rfl⟩
  have hbb : Below wa.heap.size wa wb := by rw [← hwb]; exact (Below.refl _ _).alloc (Nat.le_refl _) _
  have hzb : wb.heap.size = wa.heap.size + 1 := by rw [← hwb]; simp
  have HO : Hid (OBox wb wa.heap.size) := by rw [← hwb]; exact OBox.new _ _
  have T0 := Lib.hid (below_cell hbb t0)
  have T1 := Lib.hid (below_cell hbb t1)
  have T2 := Lib.hid (below_cell hbb t2)
  replace t0 := T0.out
  replace t1 := T1.out
  replace t2 := T2.out
  have hbw : Below w.heap.size w wb := hba.trans (hbb.mono (by omega))
  have HZA := Lib.hid hza
  have HZB := Lib.hid hzb
  clear hza hzb
  unfold entCs zero6 at hwb
  have hz : (0 : Int) = 0 := rfl
  have H1 := Lib.hid h1
  rw [h1] at HE
  clear h1
  have H2 := Lib.hid h2
  rw [h2] at HE
  clear h2
  have H3 := Lib.hid h3
  rw [h3] at HE
  clear h3
  have E1 := Lib.hid e1
  have E2 := Lib.hid e2
  have E3 := Lib.hid e3
  have e5 : a ≠ -9223372036854775808 := by omega
  go_enter Tryd.func11, Tryd.ntmps11
  go_wp2_with fail
  clear hwa hwb
  refine (tag_may con day cur _).mono ?_
  rintro e w1 ⟨rfl, hb1⟩
  rw [H1.out]
  have o1 := HO.out.after hb1
  obtain ⟨⟨o0, o1, o2, o3, o4, o5, o6⟩, f0, f1, f2, f3, f4, f5, f6⟩ := o1
  have t0 := below_cell hb1 T0.out
  have t1 := below_cell hb1 T1.out
  have t2 := below_cell hb1 T2.out
  have zz : wa.heap.size < w1.heap.size := by have := hb1.size; have := HZB.out; omega
  have za : w.heap.size < w1.heap.size := by have := HZA.out; omega
  go_wp2_with fail
  refine (below_ok h 16 _).mono ?_
  rintro e w2 ⟨rfl, rfl⟩
  rw [H2.out]
  go_wp2_with fail
  refine (below_ok v 16 _).mono ?_
  rintro e w2 ⟨rfl, rfl⟩
  rw [H3.out]
  go_wp2_with fail
  refine bodyPost_ret (v := .tuple #[entV ⟨con, day, cur, 0, 0, -1⟩ (some ⟨w1.heap.size, 0, none⟩) 2 2, .int .i64 0]) ?_ rfl ?_
  · simp [results, Tryd.results11, go_sem, o0, o1, o2, o3, o4, o5, o6, entV, zz]
  · have he : flowErr con day cur a h v = 0 := by rw [HE.out]; simp [E1.out, E2.out]; intro h; have := E3.out; omega
    refine ⟨(below_set7 (hbw.trans (hb1.mono hbw.size)) (by have := HZA.out; omega) _ _ _ _ _ _ _).alloc (by simp; omega) _, .inl ⟨he, _, rfl, fun _ => ⟨_, 0, rfl, fun i hi => ?_⟩, by omega⟩⟩
    obtain ⟨W, hW⟩ : ∃ W, (((((((w1.setCell ⟨wa.heap.size, 0, none⟩ (.int .i64 con)).setCell ⟨wa.heap.size, 1, none⟩ (.int .i64 day)).setCell ⟨wa.heap.size, 2, none⟩ (.int .i64 cur)).setCell ⟨wa.heap.size, 3, none⟩ (.int .i64 0)).setCell ⟨wa.heap.size, 4, none⟩ (.int .i64 0)).setCell ⟨wa.heap.size, 5, none⟩ (.int .i64 (-1))).setCell ⟨wa.heap.size, 6, none⟩ (.slice (some ⟨w1.heap.size, 0, none⟩) 2 2)) = W := ⟨_, rfl⟩
    have hsz : w1.heap.size = W.heap.size := by rw [← hW]; simp
    rw [hW, hsz]
    rcases (show i = 0 ∨ i = 1 by simp at hi; omega) with rfl | rfl
    · exact ⟨World.cell?_alloc_new _ _ _ 0, World.cell?_alloc_new _ _ _ 1, World.cell?_alloc_new _ _ _ 2⟩
    · exact ⟨World.cell?_alloc_new _ _ _ 3, World.cell?_alloc_new _ _ _ 4, World.cell?_alloc_new _ _ _ 5⟩

theorem flow_ok (con day cur a h v : Int) (w : World) (ha : -9223372036854775808 ≤ a ∧ a ≤ 9223372036854775807) :
    Calls Tryd.prog 11 #[.agg #[.int .i64 con, .int .i64 day, .int .i64 cur], .int .i64 a, .int .i64 h, .int .i64 v] w (FlowEnd con day cur a h v w) := by
  cases h1 : tagOk con day cur
  · exact flow_1 con day cur a h v w h1
  cases h2 : belowB h 16
  · exact flow_2 con day cur a h v w h1 h2
  cases h3 : belowB v 16
  · exact flow_3 con day cur a h v w h1 h2 h3
  by_cases e1 : h = v
  · subst e1
    exact flow_4 con day cur a h w h1 h2
  by_cases e2 : a = 0
  · exact flow_5 con day cur a h v w h1 h2 h3 e1 e2
  by_cases e3 : a = -9223372036854775808
  · exact flow_6 con day cur a h v w h1 h2 h3 e1 e3
  · exact flow_7 con day cur a h v w h1 h2 h3 e1 e2 (by omega) ha.2

end Go.Proofs.YtmjgcenhgpkhiaaDoor
