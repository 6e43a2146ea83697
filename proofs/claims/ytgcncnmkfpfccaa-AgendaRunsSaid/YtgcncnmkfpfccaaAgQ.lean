/- The law's does; == of items. -/
import Derived.Test.YtgcncnmkfpfccaaAgP
namespace Go.Proofs.Ytgcncnmkfpfccaa
open Go.RowKit Go.Sort Go.Shelf
set_option linter.unusedVariables false
set_option linter.unusedSimpArgs false

/-- A call: what it answers, and what is there then. -/
def opV (S : List It) (N a d n : Int) : It × Int :=
  if a = 0 then (if dayB d = true then (⟨0, N, 0⟩, 0) else (⟨0, 0, 0⟩, 18)) else if a = 1 then (match takeO S d with | none => (⟨0, 0, 0⟩, 16) | some x => (x, 0)) else if a = 2 then (match getO S n with | none => (⟨0, 0, 0⟩, 16) | some x => (x, 0)) else (⟨0, 0, 0⟩, moveE S n d)
def opS (S : List It) (N a d n : Int) : List It :=
  if a = 0 then (if dayB d = true then putK It.ky S ⟨d, N, n⟩ else S) else if a = 1 then takeS S d else if a = 2 then dropS S n else moveS S n d
def opN (N a d : Int) : Int := if a = 0 ∧ dayB d = true then N + 1 else N
def opR (p : It × Int) : Value := .tuple #[.agg (encI p.1).toArray, .int .i64 p.2]
def DoesEnd (w : World) (base B bm : Nat) (sv : Value) (S : List It) (N a d n : Int) (e : Ending) (w' : World) : Prop :=
  e = .returned (opR (opV S N a d n)) ∧ AgEnd w base B bm sv (opS S N a d n) (opN N a d) w'
set_option maxHeartbeats 8000000 in
set_option maxRecDepth 100000 in
theorem does_ok (base B bm : Nat) (sv : Value) (S : List It) (N a d n : Int) (hno : (Lit.int .i64 n).wf = true) (hN : N ≤ 900000) (hl : S.length ≤ 80000) (w : World) (hbase : base ≤ w.heap.size) (h : AgAt w base B bm sv S N) :
    Calls Try.prog 11 #[.pointer (some ⟨B, 0, none⟩), .agg #[.int .i64 a, .int .i64 d, .int .i64 n]] w (DoesEnd w base B bm sv S N a d n) := by
  obtain ⟨w0, hw0⟩ : ∃ W, (w.alloc (.cells #[.int .i64 a, .int .i64 d, .int .i64 n] 36)).alloc (.cells #[.int .i64 0, .int .i64 0, .int .i64 0] 31) = W := ⟨_, rfl⟩
  have hb0 : Below w.heap.size w w0 := by rw [← hw0]; exact ((Below.refl _ _).alloc (Nat.le_refl _) _).alloc (by simp) _
  have z0 : w0.heap.size = w.heap.size + 2 := by rw [← hw0]; simp
  have KX : Blk w0 w.heap.size #[.int .i64 a, .int .i64 d, .int .i64 n] 36 := by rw [← hw0]; exact (Blk.new _ _ _).alloc _
  have KR : Blk w0 (w.heap.size + 1) #[.int .i64 0, .int .i64 0, .int .i64 0] 31 := by
    rw [← hw0]
    have := Blk.new (w.alloc (.cells #[.int .i64 a, .int .i64 d, .int .i64 n] 36)) #[.int .i64 0, .int .i64 0, .int .i64 0] 31
    rw [World.size_alloc] at this
    exact this
  have x0 : w0.cell? ⟨w.heap.size, 0, none⟩ = some (.int .i64 a) := KX.cell 0 rfl
  have x1 : w0.cell? ⟨w.heap.size, 1, none⟩ = some (.int .i64 d) := KX.cell 1 rfl
  have x2 : w0.cell? ⟨w.heap.size, 2, none⟩ = some (.int .i64 n) := KX.cell 2 rfl
  have H0 := Lib.hid (h.after hb0)
  have HBs := Lib.hid h.bs_lt
  have HB0 := Lib.hid hb0
  have HKR := Lib.hid KR
  have HW0 := Lib.hid hw0
  have hnot : ∀ b ∈ PAt.bs B bm sv, b ≠ w.heap.size + 1 := fun b hb e => by have := (h.bs_lt b hb).2; omega
  have HNot := Lib.hid hnot
  rw [← hw0] at x0 x1 x2
  clear hw0 hb0 KX KR h hnot
  by_cases ha0 : a = 0
  · subst ha0
    go_enter Try.func11, Try.ntmps11
    go_wp2_with fail
    rw [HW0.out]
    with_reducible refine (put_ok base B bm sv S N d n (by omega) (by omega) w0 (by omega) H0.out).mono ?_
    rintro e w1 (⟨hd, rfl, hE⟩ | ⟨hd, rfl, hE⟩)
    · have k1 := hE.turn.blk HKR.out (fun hb => HNot.out _ hb rfl)
      have HE : Hid (AgEnd w0 base B bm sv (opS S N 0 d n) (opN N 0 d) w1) := by
        have e1 : opS S N 0 d n = S := by unfold opS; rw [if_pos rfl, hd, if_neg (by decide)]
        have e2 : opN N 0 d = N := by unfold opN; rw [hd, if_neg (by decide)]
        show AgEnd _ _ _ _ _ _ _ _
        rw [e1, e2]
        exact hE
      have r0 : w1.cell? ⟨w.heap.size + 1, 0, none⟩ = some (.int .i64 0) := (k1).cell 0 rfl
      have r1 : w1.cell? ⟨w.heap.size + 1, 1, none⟩ = some (.int .i64 0) := (k1).cell 1 rfl
      have r2 : w1.cell? ⟨w.heap.size + 1, 2, none⟩ = some (.int .i64 0) := (k1).cell 2 rfl
      have f0 := (k1).free 0
      have f1 := (k1).free 1
      have f2 := (k1).free 2
      obtain ⟨w9, hw9⟩ : ∃ W, ((w1.setCell ⟨w.heap.size + 1, 0, none⟩ (.int .i64 0)).setCell ⟨w.heap.size + 1, 1, none⟩ (.int .i64 0)).setCell ⟨w.heap.size + 1, 2, none⟩ (.int .i64 0) = W := ⟨_, rfl⟩
      have ht9 : Turn [w.heap.size + 1] w1 w9 := by rw [← hw9]; exact ((Turn.of_grown (grown_setCell _ _ _ _) (by simp)).trans (Turn.of_grown (grown_setCell _ _ _ _) (by simp))).trans (Turn.of_grown (grown_setCell _ _ _ _) (by simp))
      have k9 : Blk w9 (w.heap.size + 1) #[.int .i64 0, .int .i64 0, .int .i64 0] 31 := by rw [← hw9]; exact (((k1).set 0 _).set 1 _).set 2 _
      have HFin : Hid (DoesEnd w base B bm sv S N (0) d n (.returned (.tuple #[.agg #[.int .i64 0, .int .i64 0, .int .i64 0], .int .i64 18])) w9) := ⟨(by unfold opV; rw [if_pos rfl, hd, if_neg (by decide)]; rfl), AgEnd.wrap HB0.out (HE.out) (by omega) (by omega) HBs.out ((Turn.of_below (Below.refl _ _)).trans ht9)⟩
      have HW9 := Lib.hid hw9
      clear hE
      clear hw9 ht9
      go_wp2_with fail
      rw [HW9.out]
      have q0 := k9.cell 0 (v := .int .i64 0) rfl
      have q1 := k9.cell 1 (v := .int .i64 0) rfl
      have q2 := k9.cell 2 (v := .int .i64 0) rfl
      refine bodyPost_ret (v := .tuple #[.agg #[.int .i64 0, .int .i64 0, .int .i64 0], .int .i64 18]) (by simp [results, Try.results11, go_sem, q0, q1, q2]) rfl ?_
      exact HFin.out
    · have k1 := hE.turn.blk HKR.out (fun hb => HNot.out _ hb rfl)
      have HE : Hid (AgEnd w0 base B bm sv (opS S N 0 d n) (opN N 0 d) w1) := by
        have e1 : opS S N 0 d n = putK It.ky S ⟨d, N, n⟩ := by unfold opS; rw [if_pos rfl, if_pos hd]
        have e2 : opN N 0 d = N + 1 := by unfold opN; rw [if_pos ⟨rfl, hd⟩]
        show AgEnd _ _ _ _ _ _ _ _
        rw [e1, e2]
        exact hE
      have r0 : w1.cell? ⟨w.heap.size + 1, 0, none⟩ = some (.int .i64 0) := (k1).cell 0 rfl
      have r1 : w1.cell? ⟨w.heap.size + 1, 1, none⟩ = some (.int .i64 0) := (k1).cell 1 rfl
      have r2 : w1.cell? ⟨w.heap.size + 1, 2, none⟩ = some (.int .i64 0) := (k1).cell 2 rfl
      have f0 := (k1).free 0
      have f1 := (k1).free 1
      have f2 := (k1).free 2
      obtain ⟨w9, hw9⟩ : ∃ W, ((w1.setCell ⟨w.heap.size + 1, 0, none⟩ (.int .i64 0)).setCell ⟨w.heap.size + 1, 1, none⟩ (.int .i64 N)).setCell ⟨w.heap.size + 1, 2, none⟩ (.int .i64 0) = W := ⟨_, rfl⟩
      have ht9 : Turn [w.heap.size + 1] w1 w9 := by rw [← hw9]; exact ((Turn.of_grown (grown_setCell _ _ _ _) (by simp)).trans (Turn.of_grown (grown_setCell _ _ _ _) (by simp))).trans (Turn.of_grown (grown_setCell _ _ _ _) (by simp))
      have k9 : Blk w9 (w.heap.size + 1) #[.int .i64 0, .int .i64 N, .int .i64 0] 31 := by rw [← hw9]; exact (((k1).set 0 _).set 1 _).set 2 _
      have HFin : Hid (DoesEnd w base B bm sv S N (0) d n (.returned (.tuple #[.agg #[.int .i64 0, .int .i64 N, .int .i64 0], .int .i64 0])) w9) := ⟨(by unfold opV; rw [if_pos rfl, if_pos hd]; rfl), AgEnd.wrap HB0.out (HE.out) (by omega) (by omega) HBs.out ((Turn.of_below (Below.refl _ _)).trans ht9)⟩
      have HW9 := Lib.hid hw9
      clear hE
      clear hw9 ht9
      go_wp2_with fail
      rw [HW9.out]
      have q0 := k9.cell 0 (v := .int .i64 0) rfl
      have q1 := k9.cell 1 (v := .int .i64 N) rfl
      have q2 := k9.cell 2 (v := .int .i64 0) rfl
      refine bodyPost_ret (v := .tuple #[.agg #[.int .i64 0, .int .i64 N, .int .i64 0], .int .i64 0]) (by simp [results, Try.results11, go_sem, q0, q1, q2]) rfl ?_
      exact HFin.out
  have a0 : (a == 0) = false := by rw [beq_eq_false_iff_ne]; exact ha0
  have e2 : opN N a d = N := by unfold opN; rw [if_neg (fun h => ha0 h.1)]
  by_cases ha1 : a = 1
  · subst ha1
    have e1 : opS S N 1 d n = takeS S d := by unfold opS; rw [if_neg (by decide), if_pos rfl]
    have e3 : opV S N 1 d n = (match takeO S d with | none => (⟨0, 0, 0⟩, 16) | some x => (x, 0)) := by unfold opV; rw [if_neg (by decide), if_pos rfl]
    have E1 := Lib.hid e1
    have E2 := Lib.hid e2
    have E3 := Lib.hid e3
    clear e1 e2 e3 a0 ha0
    go_enter Try.func11, Try.ntmps11
    go_wp2_with fail
    rw [HW0.out]
    with_reducible refine (take_ok base B bm sv S N d (by omega) w0 H0.out).mono ?_
    rintro e w1 ⟨rfl, hE⟩
    have HE : Hid (AgEnd w0 base B bm sv (opS S N 1 d n) (opN N 1 d) w1) := by
      show AgEnd _ _ _ _ _ _ _ _
      rw [E1.out, E2.out]
      exact hE
    have k1 := hE.turn.blk HKR.out (fun hb => HNot.out _ hb rfl)
    have z1 := hE.turn.size
    have K1 := Lib.hid k1
    clear hE k1
    cases ho : takeO S d with
    | none =>
      have HV : Hid (opV S N 1 d n = (⟨0, 0, 0⟩, 16)) := by show _ = _; rw [E3.out, ho]
      rw [show itV (none) = .tuple #[.agg #[.int .i64 0, .int .i64 0, .int .i64 0], .bool false] from rfl]
      clear ho
      obtain ⟨w2, hw2⟩ : ∃ W, w1.alloc (.cells #[.int .i64 0, .int .i64 0, .int .i64 0] 31) = W := ⟨_, rfl⟩
      have hb2 : Below w1.heap.size w1 w2 := by rw [← hw2]; exact (Below.refl _ _).alloc (Nat.le_refl _) _
      have KY : Blk w2 w1.heap.size #[.int .i64 0, .int .i64 0, .int .i64 0] 31 := by rw [← hw2]; exact Blk.new _ _ _
      have y0 : w2.cell? ⟨w1.heap.size, 0, none⟩ = some (.int .i64 0) := KY.cell 0 rfl
      have y1 : w2.cell? ⟨w1.heap.size, 1, none⟩ = some (.int .i64 0) := KY.cell 1 rfl
      have y2 : w2.cell? ⟨w1.heap.size, 2, none⟩ = some (.int .i64 0) := KY.cell 2 rfl
      have HW2 := Lib.hid hw2
      have k2 := K1.out.after hb2
      have r0 : w2.cell? ⟨w.heap.size + 1, 0, none⟩ = some (.int .i64 0) := (k2).cell 0 rfl
      have r1 : w2.cell? ⟨w.heap.size + 1, 1, none⟩ = some (.int .i64 0) := (k2).cell 1 rfl
      have r2 : w2.cell? ⟨w.heap.size + 1, 2, none⟩ = some (.int .i64 0) := (k2).cell 2 rfl
      have f0 := (k2).free 0
      have f1 := (k2).free 1
      have f2 := (k2).free 2
      obtain ⟨w9, hw9⟩ : ∃ W, ((w2.setCell ⟨w.heap.size + 1, 0, none⟩ (.int .i64 0)).setCell ⟨w.heap.size + 1, 1, none⟩ (.int .i64 0)).setCell ⟨w.heap.size + 1, 2, none⟩ (.int .i64 0) = W := ⟨_, rfl⟩
      have ht9 : Turn [w.heap.size + 1] w2 w9 := by rw [← hw9]; exact ((Turn.of_grown (grown_setCell _ _ _ _) (by simp)).trans (Turn.of_grown (grown_setCell _ _ _ _) (by simp))).trans (Turn.of_grown (grown_setCell _ _ _ _) (by simp))
      have k9 : Blk w9 (w.heap.size + 1) #[.int .i64 0, .int .i64 0, .int .i64 0] 31 := by rw [← hw9]; exact (((k2).set 0 _).set 1 _).set 2 _
      have HFin : Hid (DoesEnd w base B bm sv S N (1) d n (.returned (.tuple #[.agg #[.int .i64 0, .int .i64 0, .int .i64 0], .int .i64 16])) w9) := ⟨(by rw [HV.out]; rfl), AgEnd.wrap HB0.out (HE.out) (by omega) (by omega) HBs.out ((Turn.of_below hb2).trans ht9)⟩
      have HW9 := Lib.hid hw9
      rw [← hw2] at r0 r1 r2 f0 f1 f2 y0 y1 y2; clear hw2 KY hb2 k2
      clear hw9 ht9
      go_wp2_with fail
      rw [HW2.out, HW9.out]
      have q0 := k9.cell 0 (v := .int .i64 0) rfl
      have q1 := k9.cell 1 (v := .int .i64 0) rfl
      have q2 := k9.cell 2 (v := .int .i64 0) rfl
      refine bodyPost_ret (v := .tuple #[.agg #[.int .i64 0, .int .i64 0, .int .i64 0], .int .i64 16]) (by simp [results, Try.results11, go_sem, q0, q1, q2]) rfl ?_
      exact HFin.out
    | some x =>
      obtain ⟨xd, xn, xt⟩ := x
      have HV : Hid (opV S N 1 d n = (⟨xd, xn, xt⟩, 0)) := by show _ = _; rw [E3.out, ho]
      rw [show itV (some ⟨xd, xn, xt⟩) = .tuple #[.agg #[.int .i64 xd, .int .i64 xn, .int .i64 xt], .bool true] from rfl]
      clear ho
      obtain ⟨w2, hw2⟩ : ∃ W, w1.alloc (.cells #[.int .i64 xd, .int .i64 xn, .int .i64 xt] 31) = W := ⟨_, rfl⟩
      have hb2 : Below w1.heap.size w1 w2 := by rw [← hw2]; exact (Below.refl _ _).alloc (Nat.le_refl _) _
      have KY : Blk w2 w1.heap.size #[.int .i64 xd, .int .i64 xn, .int .i64 xt] 31 := by rw [← hw2]; exact Blk.new _ _ _
      have y0 : w2.cell? ⟨w1.heap.size, 0, none⟩ = some (.int .i64 xd) := KY.cell 0 rfl
      have y1 : w2.cell? ⟨w1.heap.size, 1, none⟩ = some (.int .i64 xn) := KY.cell 1 rfl
      have y2 : w2.cell? ⟨w1.heap.size, 2, none⟩ = some (.int .i64 xt) := KY.cell 2 rfl
      have HW2 := Lib.hid hw2
      have k2 := K1.out.after hb2
      have r0 : w2.cell? ⟨w.heap.size + 1, 0, none⟩ = some (.int .i64 0) := (k2).cell 0 rfl
      have r1 : w2.cell? ⟨w.heap.size + 1, 1, none⟩ = some (.int .i64 0) := (k2).cell 1 rfl
      have r2 : w2.cell? ⟨w.heap.size + 1, 2, none⟩ = some (.int .i64 0) := (k2).cell 2 rfl
      have f0 := (k2).free 0
      have f1 := (k2).free 1
      have f2 := (k2).free 2
      obtain ⟨w9, hw9⟩ : ∃ W, ((w2.setCell ⟨w.heap.size + 1, 0, none⟩ (.int .i64 xd)).setCell ⟨w.heap.size + 1, 1, none⟩ (.int .i64 xn)).setCell ⟨w.heap.size + 1, 2, none⟩ (.int .i64 xt) = W := ⟨_, rfl⟩
      have ht9 : Turn [w.heap.size + 1] w2 w9 := by rw [← hw9]; exact ((Turn.of_grown (grown_setCell _ _ _ _) (by simp)).trans (Turn.of_grown (grown_setCell _ _ _ _) (by simp))).trans (Turn.of_grown (grown_setCell _ _ _ _) (by simp))
      have k9 : Blk w9 (w.heap.size + 1) #[.int .i64 xd, .int .i64 xn, .int .i64 xt] 31 := by rw [← hw9]; exact (((k2).set 0 _).set 1 _).set 2 _
      have HFin : Hid (DoesEnd w base B bm sv S N (1) d n (.returned (.tuple #[.agg #[.int .i64 xd, .int .i64 xn, .int .i64 xt], .int .i64 0])) w9) := ⟨(by rw [HV.out]; rfl), AgEnd.wrap HB0.out (HE.out) (by omega) (by omega) HBs.out ((Turn.of_below hb2).trans ht9)⟩
      have HW9 := Lib.hid hw9
      rw [← hw2] at r0 r1 r2 f0 f1 f2 y0 y1 y2; clear hw2 KY hb2 k2
      clear hw9 ht9
      go_wp2_with fail
      rw [HW2.out, HW9.out]
      have q0 := k9.cell 0 (v := .int .i64 xd) rfl
      have q1 := k9.cell 1 (v := .int .i64 xn) rfl
      have q2 := k9.cell 2 (v := .int .i64 xt) rfl
      refine bodyPost_ret (v := .tuple #[.agg #[.int .i64 xd, .int .i64 xn, .int .i64 xt], .int .i64 0]) (by simp [results, Try.results11, go_sem, q0, q1, q2]) rfl ?_
      exact HFin.out
  have a1 : (a == 1) = false := by rw [beq_eq_false_iff_ne]; exact ha1
  by_cases ha2 : a = 2
  · subst ha2
    have e1 : opS S N 2 d n = dropS S n := by unfold opS; rw [if_neg (by decide), if_neg (by decide), if_pos rfl]
    have e3 : opV S N 2 d n = (match getO S n with | none => (⟨0, 0, 0⟩, 16) | some x => (x, 0)) := by unfold opV; rw [if_neg (by decide), if_neg (by decide), if_pos rfl]
    have E1 := Lib.hid e1
    have E2 := Lib.hid e2
    have E3 := Lib.hid e3
    clear e1 e2 e3 a0 a1 ha0 ha1
    go_enter Try.func11, Try.ntmps11
    go_wp2_with fail
    rw [HW0.out]
    with_reducible refine (drop_ok base B bm sv S N n hno (by omega) w0 H0.out).mono ?_
    rintro e w1 ⟨rfl, hE⟩
    have HE : Hid (AgEnd w0 base B bm sv (opS S N 2 d n) (opN N 2 d) w1) := by
      show AgEnd _ _ _ _ _ _ _ _
      rw [E1.out, E2.out]
      exact hE
    have k1 := hE.turn.blk HKR.out (fun hb => HNot.out _ hb rfl)
    clear hE
    cases ho : getO S n with
    | none =>
      have HV : Hid (opV S N 2 d n = (⟨0, 0, 0⟩, 16)) := by show _ = _; rw [E3.out, ho]
      rw [show itE none (if (none : Option It).isSome then 0 else 16) = .tuple #[.agg #[.int .i64 0, .int .i64 0, .int .i64 0], .int .i64 16] from rfl]
      clear ho
      have r0 : w1.cell? ⟨w.heap.size + 1, 0, none⟩ = some (.int .i64 0) := (k1).cell 0 rfl
      have r1 : w1.cell? ⟨w.heap.size + 1, 1, none⟩ = some (.int .i64 0) := (k1).cell 1 rfl
      have r2 : w1.cell? ⟨w.heap.size + 1, 2, none⟩ = some (.int .i64 0) := (k1).cell 2 rfl
      have f0 := (k1).free 0
      have f1 := (k1).free 1
      have f2 := (k1).free 2
      obtain ⟨w9, hw9⟩ : ∃ W, ((w1.setCell ⟨w.heap.size + 1, 0, none⟩ (.int .i64 0)).setCell ⟨w.heap.size + 1, 1, none⟩ (.int .i64 0)).setCell ⟨w.heap.size + 1, 2, none⟩ (.int .i64 0) = W := ⟨_, rfl⟩
      have ht9 : Turn [w.heap.size + 1] w1 w9 := by rw [← hw9]; exact ((Turn.of_grown (grown_setCell _ _ _ _) (by simp)).trans (Turn.of_grown (grown_setCell _ _ _ _) (by simp))).trans (Turn.of_grown (grown_setCell _ _ _ _) (by simp))
      have k9 : Blk w9 (w.heap.size + 1) #[.int .i64 0, .int .i64 0, .int .i64 0] 31 := by rw [← hw9]; exact (((k1).set 0 _).set 1 _).set 2 _
      have HFin : Hid (DoesEnd w base B bm sv S N (2) d n (.returned (.tuple #[.agg #[.int .i64 0, .int .i64 0, .int .i64 0], .int .i64 16])) w9) := ⟨(by rw [HV.out]; rfl), AgEnd.wrap HB0.out (HE.out) (by omega) (by omega) HBs.out ((Turn.of_below (Below.refl _ _)).trans ht9)⟩
      have HW9 := Lib.hid hw9
      skip
      clear hw9 ht9
      go_wp2_with fail
      rw [HW9.out]
      have q0 := k9.cell 0 (v := .int .i64 0) rfl
      have q1 := k9.cell 1 (v := .int .i64 0) rfl
      have q2 := k9.cell 2 (v := .int .i64 0) rfl
      refine bodyPost_ret (v := .tuple #[.agg #[.int .i64 0, .int .i64 0, .int .i64 0], .int .i64 16]) (by simp [results, Try.results11, go_sem, q0, q1, q2]) rfl ?_
      exact HFin.out
    | some x =>
      obtain ⟨xd, xn, xt⟩ := x
      have HV : Hid (opV S N 2 d n = (⟨xd, xn, xt⟩, 0)) := by show _ = _; rw [E3.out, ho]
      rw [show itE (some ⟨xd, xn, xt⟩) (if (some (⟨xd, xn, xt⟩ : It)).isSome then 0 else 16) = .tuple #[.agg #[.int .i64 xd, .int .i64 xn, .int .i64 xt], .int .i64 0] from rfl]
      clear ho
      have r0 : w1.cell? ⟨w.heap.size + 1, 0, none⟩ = some (.int .i64 0) := (k1).cell 0 rfl
      have r1 : w1.cell? ⟨w.heap.size + 1, 1, none⟩ = some (.int .i64 0) := (k1).cell 1 rfl
      have r2 : w1.cell? ⟨w.heap.size + 1, 2, none⟩ = some (.int .i64 0) := (k1).cell 2 rfl
      have f0 := (k1).free 0
      have f1 := (k1).free 1
      have f2 := (k1).free 2
      obtain ⟨w9, hw9⟩ : ∃ W, ((w1.setCell ⟨w.heap.size + 1, 0, none⟩ (.int .i64 xd)).setCell ⟨w.heap.size + 1, 1, none⟩ (.int .i64 xn)).setCell ⟨w.heap.size + 1, 2, none⟩ (.int .i64 xt) = W := ⟨_, rfl⟩
      have ht9 : Turn [w.heap.size + 1] w1 w9 := by rw [← hw9]; exact ((Turn.of_grown (grown_setCell _ _ _ _) (by simp)).trans (Turn.of_grown (grown_setCell _ _ _ _) (by simp))).trans (Turn.of_grown (grown_setCell _ _ _ _) (by simp))
      have k9 : Blk w9 (w.heap.size + 1) #[.int .i64 xd, .int .i64 xn, .int .i64 xt] 31 := by rw [← hw9]; exact (((k1).set 0 _).set 1 _).set 2 _
      have HFin : Hid (DoesEnd w base B bm sv S N (2) d n (.returned (.tuple #[.agg #[.int .i64 xd, .int .i64 xn, .int .i64 xt], .int .i64 0])) w9) := ⟨(by rw [HV.out]; rfl), AgEnd.wrap HB0.out (HE.out) (by omega) (by omega) HBs.out ((Turn.of_below (Below.refl _ _)).trans ht9)⟩
      have HW9 := Lib.hid hw9
      skip
      clear hw9 ht9
      go_wp2_with fail
      rw [HW9.out]
      have q0 := k9.cell 0 (v := .int .i64 xd) rfl
      have q1 := k9.cell 1 (v := .int .i64 xn) rfl
      have q2 := k9.cell 2 (v := .int .i64 xt) rfl
      refine bodyPost_ret (v := .tuple #[.agg #[.int .i64 xd, .int .i64 xn, .int .i64 xt], .int .i64 0]) (by simp [results, Try.results11, go_sem, q0, q1, q2]) rfl ?_
      exact HFin.out
  have a2 : (a == 2) = false := by rw [beq_eq_false_iff_ne]; exact ha2
  have e1 : opS S N a d n = moveS S n d := by unfold opS; rw [if_neg ha0, if_neg ha1, if_neg ha2]
  have HV : Hid (opV S N a d n = (⟨0, 0, 0⟩, moveE S n d)) := by show _ = _; unfold opV; rw [if_neg ha0, if_neg ha1, if_neg ha2]
  have E1 := Lib.hid e1
  have E2 := Lib.hid e2
  clear e1 e2 ha0 ha1 ha2
  go_enter Try.func11, Try.ntmps11
  go_wp2_with fail
  rw [HW0.out]
  with_reducible refine (move_ok base B bm sv S N n d hno (by omega) w0 H0.out).mono ?_
  rintro e w1 ⟨rfl, hE⟩
  have HE : Hid (AgEnd w0 base B bm sv (opS S N a d n) (opN N a d) w1) := by
    show AgEnd _ _ _ _ _ _ _ _
    rw [E1.out, E2.out]
    exact hE
  have k1 := hE.turn.blk HKR.out (fun hb => HNot.out _ hb rfl)
  obtain ⟨ev, hev⟩ : ∃ ev, moveE S n d = ev := ⟨_, rfl⟩
  rw [hev] at HV ⊢
  clear hE hev a0 a1 a2
  have r0 : w1.cell? ⟨w.heap.size + 1, 0, none⟩ = some (.int .i64 0) := (k1).cell 0 rfl
  have r1 : w1.cell? ⟨w.heap.size + 1, 1, none⟩ = some (.int .i64 0) := (k1).cell 1 rfl
  have r2 : w1.cell? ⟨w.heap.size + 1, 2, none⟩ = some (.int .i64 0) := (k1).cell 2 rfl
  have f0 := (k1).free 0
  have f1 := (k1).free 1
  have f2 := (k1).free 2
  obtain ⟨w9, hw9⟩ : ∃ W, ((w1.setCell ⟨w.heap.size + 1, 0, none⟩ (.int .i64 0)).setCell ⟨w.heap.size + 1, 1, none⟩ (.int .i64 0)).setCell ⟨w.heap.size + 1, 2, none⟩ (.int .i64 0) = W := ⟨_, rfl⟩
  have ht9 : Turn [w.heap.size + 1] w1 w9 := by rw [← hw9]; exact ((Turn.of_grown (grown_setCell _ _ _ _) (by simp)).trans (Turn.of_grown (grown_setCell _ _ _ _) (by simp))).trans (Turn.of_grown (grown_setCell _ _ _ _) (by simp))
  have k9 : Blk w9 (w.heap.size + 1) #[.int .i64 0, .int .i64 0, .int .i64 0] 31 := by rw [← hw9]; exact (((k1).set 0 _).set 1 _).set 2 _
  have HFin : Hid (DoesEnd w base B bm sv S N (a) d n (.returned (.tuple #[.agg #[.int .i64 0, .int .i64 0, .int .i64 0], .int .i64 ev])) w9) := ⟨(by rw [HV.out]; rfl), AgEnd.wrap HB0.out (HE.out) (by omega) (by omega) HBs.out ((Turn.of_below (Below.refl _ _)).trans ht9)⟩
  have HW9 := Lib.hid hw9
  skip
  clear hw9 ht9
  go_wp2_with fail
  rw [HW9.out]
  have q0 := k9.cell 0 (v := .int .i64 0) rfl
  have q1 := k9.cell 1 (v := .int .i64 0) rfl
  have q2 := k9.cell 2 (v := .int .i64 0) rfl
  refine bodyPost_ret (v := .tuple #[.agg #[.int .i64 0, .int .i64 0, .int .i64 0], .int .i64 ev]) (by simp [results, Try.results11, go_sem, q0, q1, q2]) rfl ?_
  exact HFin.out

end Go.Proofs.Ytgcncnmkfpfccaa
