/- The statement PeriodsWhole: its walk. -/
import Derived.Test.YtdhijkhjapjdnaaPart
import Derived.Deep.RegionHeld3
import Derived.LoopTactic
import Derived.Deep.LoopGhost
namespace Go.Proofs.Ytdhijkhjapjdnaa
open Go.ChangeShapes Go.WideShapes Go.ChangeAt Go.RowKit
set_option linter.unusedVariables false
set_option linter.unusedSimpArgs false
set_option maxRecDepth 100000 in
theorem whole_pre (size : Int) (h : size < 20 ∨ 400 < size) (w : World) :
    Calls Try.prog 5 #[.int .i64 size] w fun e w' => e = .returned (.bool true) ∧ Below w.heap.size w w' := by
  by_cases h0 : size < 1
  · go_enter Try.func5, Try.ntmps5
    go_wp2_with (first
      | (go_at_call 9; refine (new_bad _ _ (Or.inl h0)).mono ?_; rintro e w1 ⟨rfl, rfl⟩)
      | (go_at_call 10; refine (awake_ok _).mono ?_; rintro e w2 ⟨rfl, hb2⟩))
    go_ret
    exact ⟨rfl, hb2⟩
  · by_cases h1 : 400 < size
    · have h2 : ¬ size < 20 := by omega
      go_enter Try.func5, Try.ntmps5
      go_wp2_with (first
        | (go_at_call 9; refine (new_bad _ _ (Or.inr h1)).mono ?_; rintro e w1 ⟨rfl, rfl⟩)
        | (go_at_call 10; refine (awake_ok _).mono ?_; rintro e w2 ⟨rfl, hb2⟩))
      go_ret
      exact ⟨rfl, hb2⟩
    · have h3 : size < 20 := by omega
      go_enter Try.func5, Try.ntmps5
      go_wp2_with fail
      refine (new_ok _ _ (by omega) (by omega)).mono ?_
      rintro e w1 ⟨b, s, rfl, hP1, hb1, g1, g2⟩
      have z1 := hb1.size
      go_wp2_with (go_at_call 10; refine (awake_ok _).mono ?_; rintro e w2 ⟨rfl, hb2⟩)
      go_ret
      exact ⟨rfl, hb1.trans (hb2.mono (by omega))⟩

set_option maxRecDepth 100000 in
set_option maxHeartbeats 1000000 in
theorem whole_ok (size : Int) (h1 : 20 ≤ size) (h2 : size ≤ 400) (w : World) :
    Calls Try.prog 5 #[.int .i64 size] w fun e w' => e = .returned (.bool true) ∧ Below w.heap.size w w' := by
  have h1' : 1 ≤ size := by omega
  obtain ⟨d3, d4⟩ := last_range size h1'
  obtain ⟨m, hm⟩ := Int.eq_ofNat_of_zero_le d3
  have Hm := Lib.hid hm
  clear hm
  go_enter Try.func5, Try.ntmps5
  go_wp2_with fail
  refine (new_ok _ _ (by omega) (by omega)).mono ?_
  rintro e w1 ⟨b, s, rfl, hP1, hb1, g1, g2⟩
  have z1 := hb1.size
  go_wp2_with fail
  go_loopw [5, 6] (fun nx i wr => ∃ k : Nat, (k : Int) ≤ lastP size + 1 ∧ i = .int .i64 k ∧ nx = .int .i64 (if (k : Int) ≤ lastP size then k * size else 73049) ∧ Per wr b s size 0 ∧ Below w.heap.size w wr) (fun _ i _ => m + 1 - (intOf i).toNat)
  case atStart => exact ⟨0, by omega, rfl, by rw [if_pos (by omega)]; simp, hP1, hb1⟩
  case round =>
    obtain ⟨k, hk, rfl, rfl, hPk, hbk⟩ := hrel
    clear hP1 hb1
    have zk := hPk.lt
    by_cases hlt : (k : Int) ≤ lastP size
    · rw [if_pos hlt]
      obtain ⟨q1, q2⟩ := mul_last size k h1' (by omega) hlt
      have nt : toP size k = if k * size + size - 1 ≤ 73048 then k * size + size - 1 else 73048 := toP.eq_1 _ _
      have l5 : ((k : Int) + 1) * size = k * size + size := by rw [Int.add_mul]; omega
      by_cases hl : (k : Int) < lastP size
      · have l6 := (mul_last size (k + 1) h1' (by omega) (by omega)).2
        have l1 : toP size k = k * size + size - 1 := by rw [nt]; rw [if_pos (by omega)]
        have l2 : toP size k + 1 = if ((k + 1 : Nat) : Int) ≤ lastP size then ((k + 1 : Nat) : Int) * size else 73049 := by
          rw [if_pos (by omega), l1, Int.natCast_add, Int.natCast_one, l5]; omega
        have L2 := Lib.hid l2
        have l4 : toP size k ≤ k * size + size - 1 := by omega
        have l7 : k * size + size - 1 ≤ toP size k := by omega
        have l8 : (toP size k - k * size + 1 != size) = false := by rw [bne_eq_false_iff_eq]; omega
        clear nt l1 l2 l5 l6
        go_wp2_with fail
        refine (last_ok b s size 0 _ hPk h1').mono ?_
        rintro e w2 ⟨rfl, hb2⟩
        have hP2 := hPk.after hb2
        have z2 := hb2.size
        go_wp2_with fail
        refine (span_ok b s size 0 _ _ hP2 h1' h2 (by omega) (by omega)).mono ?_
        rintro e w3 ⟨rfl, hb3⟩
        have hP3 := hP2.after hb3
        have z3 := hb3.size
        go_wp2_with fail
        refine (last_ok b s size 0 _ hP3 h1').mono ?_
        rintro e w4 ⟨rfl, hb4⟩
        have hP4 := hP3.after hb4
        have hbE : Below w.heap.size w w4 := hbk.trans ((hb2.mono (by omega)).trans ((hb3.mono (by omega)).trans (hb4.mono (by omega))))
        go_wp2_with fail
        go_roundw
        case rel => exact ⟨k + 1, by omega, by go_num, by rw [L2.out], hP4, hbE⟩
        case measure => have := Hm.out; simp [intOf]; omega
      · have l1 : toP size k = 73048 := by
          have := (mul_facts size 73048 h1').2
          have e : (k : Int) = lastP size := by omega
          rw [nt]; unfold lastP at e; rw [e] at nt ⊢; split <;> omega
        have L1 := Lib.hid l1
        have l4 : toP size k ≤ 73048 := by omega
        have l7 : 73048 ≤ toP size k := by omega
        clear nt l1 l5
        go_wp2_with fail
        refine (last_ok b s size 0 _ hPk h1').mono ?_
        rintro e w2 ⟨rfl, hb2⟩
        have hP2 := hPk.after hb2
        have z2 := hb2.size
        go_wp2_with fail
        refine (span_ok b s size 0 _ _ hP2 h1' h2 (by omega) (by omega)).mono ?_
        rintro e w3 ⟨rfl, hb3⟩
        have hP3 := hP2.after hb3
        have z3 := hb3.size
        go_wp2_with fail
        refine (last_ok b s size 0 _ hP3 h1').mono ?_
        rintro e w4 ⟨rfl, hb4⟩
        have hP4 := hP3.after hb4
        have hbE : Below w.heap.size w w4 := hbk.trans ((hb2.mono (by omega)).trans ((hb3.mono (by omega)).trans (hb4.mono (by omega))))
        go_wp2_with fail
        go_roundw
        case rel => exact ⟨k + 1, by omega, by go_num, by rw [if_neg (by omega), L1.out]; rfl, hP4, hbE⟩
        case measure => have := Hm.out; simp [intOf]; omega
    · rw [if_neg hlt]
      go_wp2_with fail
      refine (last_ok b s size 0 _ hPk h1').mono ?_
      rintro e w2 ⟨rfl, hb2⟩
      have z2 := hb2.size
      go_wp2_with (go_at_call 10; refine (awake_ok _).mono ?_; rintro e w9 ⟨rfl, hb9⟩)
      go_ret
      exact ⟨rfl, hbk.trans ((hb2.mono (by omega)).trans (hb9.mono (by omega)))⟩

theorem walk_PeriodsWhole (w : World) (size : Int) (_ : (Lit.int .i64 size).wf = true) :
    Calls Try.prog 5 #[.int .i64 size] w fun e w' => e = .returned (.bool true) ∧ Below w.heap.size w w' := by
  by_cases hs : size < 20 ∨ 400 < size
  · exact whole_pre size hs w
  · exact whole_ok size (by omega) (by omega) w

end Go.Proofs.Ytdhijkhjapjdnaa
