/- The statement PeriodsPart: its walk. -/
import Derived.Test.YtdhijkhjapjdnaaPer
namespace Go.Proofs.Ytdhijkhjapjdnaa
open Go.ChangeShapes Go.WideShapes Go.ChangeAt Go.RowKit
set_option linter.unusedVariables false

theorem mul_facts (size a : Int) (h1 : 1 ≤ size) : a / size * size ≤ a ∧ a < a / size * size + size := by
  have c := Int.ediv_mul_le a (show size ≠ 0 by omega)
  have d := Int.lt_ediv_add_one_mul_self a (show 0 < size by omega)
  rw [Int.add_mul] at d
  omega

theorem div_range (size a : Int) (h1 : 1 ≤ size) (h3 : 0 ≤ a) (h4 : a ≤ 73048) : 0 ≤ a / size ∧ a / size ≤ lastP size :=
  ⟨Int.ediv_nonneg h3 (by omega), Int.ediv_le_ediv (by omega) h4⟩

theorem div_lt_mul (size a b : Int) (h1 : 1 ≤ size) (h : a / size < b / size) : a / size * size + size ≤ b / size * size := by
  have := Int.mul_le_mul_of_nonneg_right (show a / size + 1 ≤ b / size by omega) (show 0 ≤ size by omega)
  rw [Int.add_mul] at this
  omega

set_option maxRecDepth 100000 in
theorem new_pre (size : Int) (h : size < 20 ∨ 400 < size) (a1 a2 : Int) (w : World) :
    Calls Try.prog 3 #[.int .i64 size, .int .i64 a1, .int .i64 a2] w fun e w' => e = .returned (.bool true) ∧ Below w.heap.size w w' := by
  by_cases h0 : size < 1
  · go_enter Try.func3, Try.ntmps3
    go_wp2_with (first
      | (go_at_call 9; refine (new_bad _ _ (Or.inl h0)).mono ?_; rintro e w1 ⟨rfl, rfl⟩)
      | (go_at_call 10; refine (awake_ok _).mono ?_; rintro e w2 ⟨rfl, hb2⟩))
    go_ret
    exact ⟨rfl, hb2⟩
  · by_cases h1 : 400 < size
    · have h2 : ¬ size < 20 := by omega
      go_enter Try.func3, Try.ntmps3
      go_wp2_with (first
        | (go_at_call 9; refine (new_bad _ _ (Or.inr h1)).mono ?_; rintro e w1 ⟨rfl, rfl⟩)
        | (go_at_call 10; refine (awake_ok _).mono ?_; rintro e w2 ⟨rfl, hb2⟩))
      go_ret
      exact ⟨rfl, hb2⟩
    · have h3 : size < 20 := by omega
      go_enter Try.func3, Try.ntmps3
      go_wp2_with fail
      refine (new_ok _ _ (by omega) (by omega)).mono ?_
      rintro e w1 ⟨b, s, rfl, hP1, hb1, g1, g2⟩
      go_wp2_with (go_at_call 10; refine (awake_ok _).mono ?_; rintro e w2 ⟨rfl, hb2⟩)
      go_ret
      exact ⟨rfl, hb1.trans (hb2.mono hb1.size)⟩

set_option maxRecDepth 100000 in
theorem part_bad1 (size a1 a2 : Int) (h1 : 20 ≤ size) (h2 : size ≤ 400) (ca : a1 < 0 ∨ 73048 < a1) (w : World) :
    Calls Try.prog 3 #[.int .i64 size, .int .i64 a1, .int .i64 a2] w fun e w' => e = .returned (.bool true) ∧ Below w.heap.size w w' := by
  go_enter Try.func3, Try.ntmps3
  go_wp2_with fail
  refine (new_ok _ _ (by omega) (by omega)).mono ?_
  rintro e w1 ⟨b, s, rfl, hP1, hb1, g1, g2⟩
  have z1 := hb1.size
  go_wp2_with fail
  refine (of_bad b _ _ ca).mono ?_
  rintro e w2 ⟨rfl, hb2⟩
  have hP2 := hP1.after hb2
  have z2 := hb2.size
  go_wp2_with fail
  by_cases cb : 0 ≤ a2 ∧ a2 ≤ 73048
  · obtain ⟨cb1, cb2⟩ := cb
    refine (of_ok b s size 0 _ _ hP2 (by omega) (by omega) (by omega)).mono ?_
    rintro e w3 ⟨rfl, hb3⟩
    have z3 := hb3.size
    rcases ca with ca | ca
    all_goals
      go_wp2_with (go_at_call 10; refine (awake_ok _).mono ?_; rintro e w4 ⟨rfl, hb4⟩)
      go_ret
      exact ⟨rfl, hb1.trans ((hb2.mono (by omega)).trans ((hb3.mono (by omega)).trans (hb4.mono (by omega))))⟩
  · have cb' : a2 < 0 ∨ 73048 < a2 := by omega
    refine (of_bad b _ _ cb').mono ?_
    rintro e w3 ⟨rfl, hb3⟩
    have z3 := hb3.size
    rcases ca with ca | ca
    all_goals
      go_wp2_with (go_at_call 10; refine (awake_ok _).mono ?_; rintro e w4 ⟨rfl, hb4⟩)
      go_ret
      exact ⟨rfl, hb1.trans ((hb2.mono (by omega)).trans ((hb3.mono (by omega)).trans (hb4.mono (by omega))))⟩

set_option maxRecDepth 100000 in
theorem part_bad2 (size a1 a2 : Int) (h1 : 20 ≤ size) (h2 : size ≤ 400) (ca : 0 ≤ a1) (ca' : a1 ≤ 73048) (cb : a2 < 0 ∨ 73048 < a2) (w : World) :
    Calls Try.prog 3 #[.int .i64 size, .int .i64 a1, .int .i64 a2] w fun e w' => e = .returned (.bool true) ∧ Below w.heap.size w w' := by
  go_enter Try.func3, Try.ntmps3
  go_wp2_with fail
  refine (new_ok _ _ (by omega) (by omega)).mono ?_
  rintro e w1 ⟨b, s, rfl, hP1, hb1, g1, g2⟩
  have z1 := hb1.size
  go_wp2_with fail
  refine (of_ok b s size 0 _ _ hP1 (by omega) (by omega) (by omega)).mono ?_
  rintro e w2 ⟨rfl, hb2⟩
  have hP2 := hP1.after hb2
  have z2 := hb2.size
  go_wp2_with fail
  refine (of_bad b _ _ cb).mono ?_
  rintro e w3 ⟨rfl, hb3⟩
  have z3 := hb3.size
  rcases cb with cb | cb
  all_goals
    go_wp2_with (go_at_call 10; refine (awake_ok _).mono ?_; rintro e w4 ⟨rfl, hb4⟩)
    go_ret
    exact ⟨rfl, hb1.trans ((hb2.mono (by omega)).trans ((hb3.mono (by omega)).trans (hb4.mono (by omega))))⟩

theorem last_range (size : Int) (h1 : 1 ≤ size) : 0 ≤ lastP size ∧ lastP size ≤ 73048 :=
  ⟨Int.ediv_nonneg (by omega) (by omega), Int.ediv_le_self _ (by omega)⟩

set_option maxRecDepth 100000 in
set_option maxHeartbeats 1600000 in
theorem part_last (size a1 a2 : Int) (h1 : 20 ≤ size) (h2 : size ≤ 400) (ca : 0 ≤ a1) (ca' : a1 ≤ 73048) (cb : 0 ≤ a2) (cb' : a2 ≤ 73048) (hq : ((a1 / size == a2 / size) = true ∧ a1 / size * size ≤ a2 ∧ a2 ≤ toP size (a1 / size) ∧ a2 / size ≤ a1 / size) ∨ ((a1 / size == a2 / size) = false ∧ a2 < a1 / size * size ∧ a2 / size < a1 / size) ∨ ((a1 / size == a2 / size) = false ∧ toP size (a1 / size) < a2 ∧ a1 / size < a2 / size ∧ a1 < a2)) (hl : a1 / size = lastP size) (w : World) :
    Calls Try.prog 3 #[.int .i64 size, .int .i64 a1, .int .i64 a2] w fun e w' => e = .returned (.bool true) ∧ Below w.heap.size w w' := by
  have h1' : 1 ≤ size := by omega
  obtain ⟨d1, d2⟩ := div_range size a1 h1' ca ca'
  obtain ⟨d3, d4⟩ := last_range size h1'
  obtain ⟨n1, n2⟩ := mul_facts size a1 h1'
  obtain ⟨n3, n4⟩ := mul_facts size a2 h1'
  have nt : toP size (a1 / size) = if a1 / size * size + size - 1 ≤ 73048 then a1 / size * size + size - 1 else 73048 := toP.eq_1 _ _
  have nt1 : toP size (a1 / size) ≤ a1 / size * size + size - 1 := by rw [nt]; split <;> omega
  have nt2 : a1 ≤ toP size (a1 / size) := by rw [nt]; split <;> omega
  have nt3 : toP size (a1 / size) ≤ 73048 := by rw [nt]; split <;> omega
  have l1 : toP size (a1 / size) = 73048 := by
    have := (mul_facts size 73048 h1').2
    rw [nt]; unfold lastP at hl; rw [hl] at nt ⊢; split <;> omega
  have l2 : (toP size (a1 / size) == 73048) = true := beq_iff_eq.2 l1
  have l3 : (a1 / size == lastP size) = true := beq_iff_eq.2 hl
  have l4 : lastP size < a1 / size + 1 := by omega
  clear nt l1 hl
  rcases hq with ⟨q1, q2, q3, q4⟩ | ⟨q1, q2, q3⟩ | ⟨q1, q2, q3, q4⟩
  all_goals
    go_enter Try.func3, Try.ntmps3
    go_wp2_with fail
    refine (new_ok _ _ (by omega) (by omega)).mono ?_
    rintro e w1 ⟨b, s, rfl, hP1, hb1, g1, g2⟩
    have z1 := hb1.size
    go_wp2_with fail
    refine (of_ok b s size 0 _ _ hP1 (by omega) (by omega) (by omega)).mono ?_
    rintro e w2 ⟨rfl, hb2⟩
    have hP2 := hP1.after hb2
    have z2 := hb2.size
    go_wp2_with fail
    refine (of_ok b s size 0 _ _ hP2 (by omega) (by omega) (by omega)).mono ?_
    rintro e w3 ⟨rfl, hb3⟩
    have hP3 := hP2.after hb3
    have z3 := hb3.size
    go_wp2_with fail
    refine (span_ok b s size 0 _ _ hP3 (by omega) (by omega) (by omega) (by omega)).mono ?_
    rintro e w4 ⟨rfl, hb4⟩
    have hP4 := hP3.after hb4
    have z4 := hb4.size
    go_wp2_with fail
    refine (span_bad b s size 0 _ _ hP4 (by omega) (by omega)).mono ?_
    rintro e w5 ⟨rfl, hb5⟩
    have hP5 := hP4.after hb5
    have z5 := hb5.size
    go_wp2_with fail
    refine (last_ok b s size 0 _ hP5 (by omega)).mono ?_
    rintro e w6 ⟨rfl, hb6⟩
    have z6 := hb6.size
    go_wp2_with fail
    refine (awake_ok _).mono ?_
    rintro e w7 ⟨rfl, hb7⟩
    go_wp2_with fail
    go_ret
    exact ⟨rfl, hb1.trans ((hb2.mono (by omega)).trans ((hb3.mono (by omega)).trans ((hb4.mono (by omega)).trans ((hb5.mono (by omega)).trans ((hb6.mono (by omega)).trans (hb7.mono (by omega)))))))⟩

set_option maxRecDepth 100000 in
set_option maxHeartbeats 1600000 in
theorem part_inner (size a1 a2 : Int) (h1 : 20 ≤ size) (h2 : size ≤ 400) (ca : 0 ≤ a1) (ca' : a1 ≤ 73048) (cb : 0 ≤ a2) (cb' : a2 ≤ 73048) (hq : ((a1 / size == a2 / size) = true ∧ a1 / size * size ≤ a2 ∧ a2 ≤ toP size (a1 / size) ∧ a2 / size ≤ a1 / size) ∨ ((a1 / size == a2 / size) = false ∧ a2 < a1 / size * size ∧ a2 / size < a1 / size) ∨ ((a1 / size == a2 / size) = false ∧ toP size (a1 / size) < a2 ∧ a1 / size < a2 / size ∧ a1 < a2)) (hl : a1 / size < lastP size) (w : World) :
    Calls Try.prog 3 #[.int .i64 size, .int .i64 a1, .int .i64 a2] w fun e w' => e = .returned (.bool true) ∧ Below w.heap.size w w' := by
  have h1' : 1 ≤ size := by omega
  obtain ⟨d1, d2⟩ := div_range size a1 h1' ca ca'
  obtain ⟨d3, d4⟩ := last_range size h1'
  obtain ⟨n1, n2⟩ := mul_facts size a1 h1'
  obtain ⟨n3, n4⟩ := mul_facts size a2 h1'
  have nt : toP size (a1 / size) = if a1 / size * size + size - 1 ≤ 73048 then a1 / size * size + size - 1 else 73048 := toP.eq_1 _ _
  have nt1 : toP size (a1 / size) ≤ a1 / size * size + size - 1 := by rw [nt]; split <;> omega
  have nt2 : a1 ≤ toP size (a1 / size) := by rw [nt]; split <;> omega
  have nt3 : toP size (a1 / size) ≤ 73048 := by rw [nt]; split <;> omega
  have l5 : (a1 / size + 1) * size = a1 / size * size + size := by rw [Int.add_mul]; omega
  have l6 := (mul_last size (a1 / size + 1) h1' (by omega) (by omega)).2
  have l1 : toP size (a1 / size) = a1 / size * size + size - 1 := by rw [nt]; rw [if_pos (by omega)]
  have l2 : ((a1 / size + 1) * size == toP size (a1 / size) + 1) = true := by rw [beq_iff_eq]; omega
  have l3 : (a1 / size == lastP size) = false := by rw [beq_eq_false_iff_ne]; omega
  have l7 := (mul_last size (a1 / size + 1) h1' (by omega) (by omega)).1
  clear nt l1 l5
  rcases hq with ⟨q1, q2, q3, q4⟩ | ⟨q1, q2, q3⟩ | ⟨q1, q2, q3, q4⟩
  all_goals
    go_enter Try.func3, Try.ntmps3
    go_wp2_with fail
    refine (new_ok _ _ (by omega) (by omega)).mono ?_
    rintro e w1 ⟨b, s, rfl, hP1, hb1, g1, g2⟩
    have z1 := hb1.size
    go_wp2_with fail
    refine (of_ok b s size 0 _ _ hP1 (by omega) (by omega) (by omega)).mono ?_
    rintro e w2 ⟨rfl, hb2⟩
    have hP2 := hP1.after hb2
    have z2 := hb2.size
    go_wp2_with fail
    refine (of_ok b s size 0 _ _ hP2 (by omega) (by omega) (by omega)).mono ?_
    rintro e w3 ⟨rfl, hb3⟩
    have hP3 := hP2.after hb3
    have z3 := hb3.size
    go_wp2_with fail
    refine (span_ok b s size 0 _ _ hP3 (by omega) (by omega) (by omega) (by omega)).mono ?_
    rintro e w4 ⟨rfl, hb4⟩
    have hP4 := hP3.after hb4
    have z4 := hb4.size
    go_wp2_with fail
    refine (span_ok b s size 0 _ _ hP4 (by omega) (by omega) (by omega) (by omega)).mono ?_
    rintro e w5 ⟨rfl, hb5⟩
    have hP5 := hP4.after hb5
    have z5 := hb5.size
    go_wp2_with fail
    refine (last_ok b s size 0 _ hP5 (by omega)).mono ?_
    rintro e w6 ⟨rfl, hb6⟩
    have hP6 := hP5.after hb6
    have z6 := hb6.size
    go_wp2_with fail
    refine (last_ok b s size 0 _ hP6 (by omega)).mono ?_
    rintro e w7 ⟨rfl, hb7⟩
    have z7 := hb7.size
    go_wp2_with fail
    refine (awake_ok _).mono ?_
    rintro e w8 ⟨rfl, hb8⟩
    go_wp2_with fail
    go_ret
    exact ⟨rfl, hb1.trans ((hb2.mono (by omega)).trans ((hb3.mono (by omega)).trans ((hb4.mono (by omega)).trans ((hb5.mono (by omega)).trans ((hb6.mono (by omega)).trans ((hb7.mono (by omega)).trans (hb8.mono (by omega))))))))⟩

theorem part_q (size a1 a2 : Int) (h1' : 1 ≤ size) (ca : 0 ≤ a1) (ca' : a1 ≤ 73048) (cb : 0 ≤ a2) (cb' : a2 ≤ 73048) :
    ((a1 / size == a2 / size) = true ∧ a1 / size * size ≤ a2 ∧ a2 ≤ toP size (a1 / size) ∧ a2 / size ≤ a1 / size) ∨ ((a1 / size == a2 / size) = false ∧ a2 < a1 / size * size ∧ a2 / size < a1 / size) ∨ ((a1 / size == a2 / size) = false ∧ toP size (a1 / size) < a2 ∧ a1 / size < a2 / size ∧ a1 < a2) := by
  obtain ⟨n1, n2⟩ := mul_facts size a1 h1'
  obtain ⟨n3, n4⟩ := mul_facts size a2 h1'
  have nt : toP size (a1 / size) = if a1 / size * size + size - 1 ≤ 73048 then a1 / size * size + size - 1 else 73048 := toP.eq_1 _ _
  rcases Int.lt_trichotomy (a1 / size) (a2 / size) with hx | hx | hx
  · have k1 := div_lt_mul size a1 a2 h1' hx
    refine Or.inr (Or.inr ⟨by rw [beq_eq_false_iff_ne]; omega, ?_, hx, by omega⟩)
    rw [nt]; split <;> omega
  · refine Or.inl ⟨beq_iff_eq.2 hx, by rw [hx]; exact n3, ?_, by omega⟩
    rw [nt]
    rw [← hx] at n4
    split <;> omega
  · have k1 := div_lt_mul size a2 a1 h1' hx
    exact Or.inr (Or.inl ⟨by rw [beq_eq_false_iff_ne]; omega, by omega, hx⟩)

theorem walk_PeriodsPart (w : World) (size : Int) (_ : (Lit.int .i64 size).wf = true) (a1 : Int) (_ : (Lit.int .i64 a1).wf = true) (a2 : Int) (_ : (Lit.int .i64 a2).wf = true) :
    Calls Try.prog 3 #[.int .i64 size, .int .i64 a1, .int .i64 a2] w fun e w' => e = .returned (.bool true) ∧ Below w.heap.size w w' := by
  by_cases hs : size < 20 ∨ 400 < size
  · exact new_pre size hs a1 a2 w
  · have h1 : 20 ≤ size := by omega
    have h2 : size ≤ 400 := by omega
    by_cases ca : a1 < 0 ∨ 73048 < a1
    · exact part_bad1 size a1 a2 h1 h2 ca w
    · by_cases cb : a2 < 0 ∨ 73048 < a2
      · exact part_bad2 size a1 a2 h1 h2 (by omega) (by omega) cb w
      · have hq := part_q size a1 a2 (by omega) (by omega) (by omega) (by omega) (by omega)
        have hd := (div_range size a1 (by omega) (by omega) (by omega)).2
        by_cases hl : a1 / size = lastP size
        · exact part_last size a1 a2 h1 h2 (by omega) (by omega) (by omega) (by omega) hq hl w
        · exact part_inner size a1 a2 h1 h2 (by omega) (by omega) (by omega) (by omega) hq (by omega) w

end Go.Proofs.Ytdhijkhjapjdnaa
