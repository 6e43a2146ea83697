/- The document's answer for terms (chattelref05): within, fields. -/
import Derived.Test.YtglnnllodoljkaaDoorRefJ
import Derived.Test.YtglnnllodoljkaaDoorTermI
namespace Go.Proofs.YtglnnllodoljkaaDoor
open Go.RowKit
set_option linter.unusedVariables false
set_option linter.unusedSimpArgs false

theorem within_yes (n m : Int) (h : 0 ≤ n) (h' : n ≤ m) (w : World) : Calls Tryd.prog 49 #[.int .i64 n, .int .i64 m] w fun e w' => e = .returned (.bool true) ∧ w = w' := by
  go_enter Tryd.func49, Tryd.ntmps49
  go_wp2
  go_ret
  exact ⟨rfl, rfl⟩
theorem within_no (n m : Int) (h : ¬ (0 ≤ n ∧ n ≤ m)) (w : World) : Calls Tryd.prog 49 #[.int .i64 n, .int .i64 m] w fun e w' => e = .returned (.bool false) ∧ w = w' := by
  by_cases h0 : 0 ≤ n
  · have h1 : decide (n ≤ m) = false := by simp; omega
    go_enter Tryd.func49, Tryd.ntmps49
    go_wp2
    go_ret
    exact ⟨rfl, rfl⟩
  · have h1 : n < 0 := by omega
    go_enter Tryd.func49, Tryd.ntmps49
    go_wp2
    go_ret
    exact ⟨rfl, rfl⟩


set_option maxHeartbeats 4000000 in
set_option maxRecDepth 100000 in
theorem reffields_one (n : Nd) (hop : n.op = 1) (h1 : -9223372036854775808 ≤ n.num) (h2 : n.num ≤ 9223372036854775807) (h3 : -9223372036854775808 ≤ n.den) (h4 : n.den ≤ 9223372036854775807) (w : World) :
    Calls Tryd.prog 40 #[n.val] w fun e w' => e = .returned (.bool (fieldsV n)) ∧ Below w.heap.size w w' := by
  obtain ⟨op, na, nb, nn, nd⟩ := n
  unfold Nd.val
  dsimp only at h1 h2 h3 h4 hop ⊢
  obtain ⟨wa, hwa⟩ : ∃ wa, w.alloc (.cells #[.int .i64 op, .int .i64 na, .int .i64 nb, .int .i64 nn, .int .i64 nd] 47) = wa := ⟨_, rfl⟩
  have ba : Hid (Below w.heap.size w wa) := by show Below _ _ _; rw [← hwa]; exact (Below.refl _ _).alloc (Nat.le_refl _) _
  have k0 : Blk wa w.heap.size #[.int .i64 op, .int .i64 na, .int .i64 nb, .int .i64 nn, .int .i64 nd] 47 := by rw [← hwa]; exact Blk.new _ _ _
  have c0 : wa.cell? ⟨w.heap.size, 0, none⟩ = some (.int .i64 op) := k0.cell 0 rfl
  have c1 : wa.cell? ⟨w.heap.size, 1, none⟩ = some (.int .i64 na) := k0.cell 1 rfl
  have c2 : wa.cell? ⟨w.heap.size, 2, none⟩ = some (.int .i64 nb) := k0.cell 2 rfl
  have c3 : wa.cell? ⟨w.heap.size, 3, none⟩ = some (.int .i64 nn) := k0.cell 3 rfl
  have c4 : wa.cell? ⟨w.heap.size, 4, none⟩ = some (.int .i64 nd) := k0.cell 4 rfl
  clear k0
  obtain ⟨V, hV⟩ : ∃ V, fieldsV ⟨op, na, nb, nn, nd⟩ = V := ⟨_, rfl⟩
  rw [hV]
  subst hop
  have HV : Hid (V = (na == 0 && (nb == 0 && ratV nn nd == 0))) := by show V = _; rw [← hV]; rfl
  have HC := Lib.hid (ref2chk_ok nn nd h1 h2 h3 h4 wa)
  obtain ⟨R, hR⟩ : ∃ R, ratV nn nd = R := ⟨_, rfl⟩
  rw [hR] at HC HV
  clear hV hR h1 h2 h3 h4
  by_cases n0 : nn = 0
  · subst n0
    by_cases d0 : nd = 0
    · subst d0
      by_cases a0 : na = 0
      · subst a0
        by_cases b0 : nb = 0
        · subst b0
          by_cases r0 : R = 0
          · subst r0
            have HW : Hid (V = true) := by show V = true; rw [HV.out]; rfl
            go_enter Tryd.func40, Tryd.ntmps40
            go_wp2_with fail
            all_goals
              with_reducible refine HC.out.mono ?_
              rintro e w1 ⟨rfl, hb1⟩
              have HB := Lib.hid (ba.out.trans (hb1.mono ba.out.size))
              clear hb1
              go_wp2_with fail
              go_ret
              exact ⟨by rw [HW.out]; rfl, HB.out⟩
          · have HW : Hid (V = false) := by show V = false; rw [HV.out]; simp [r0]
            have r1 : (R == 0) = false := by simp [r0]
            clear r0
            go_enter Tryd.func40, Tryd.ntmps40
            go_wp2_with fail
            all_goals
              with_reducible refine HC.out.mono ?_
              rintro e w1 ⟨rfl, hb1⟩
              have HB := Lib.hid (ba.out.trans (hb1.mono ba.out.size))
              clear hb1
              go_wp2_with fail
              go_ret
              exact ⟨by rw [HW.out]; rfl, HB.out⟩
        · have HW : Hid (V = false) := by show V = false; rw [HV.out]; simp [b0]
          have b1 : (nb == 0) = false := by simp [b0]
          clear b0
          go_enter Tryd.func40, Tryd.ntmps40
          go_wp2_with fail
          all_goals
            go_ret
            exact ⟨by rw [HW.out]; rfl, ba.out⟩
      · have HW : Hid (V = false) := by show V = false; rw [HV.out]; simp [a0]
        have a1 : (na == 0) = false := by simp [a0]
        clear a0
        go_enter Tryd.func40, Tryd.ntmps40
        go_wp2_with fail
        all_goals
          go_ret
          exact ⟨by rw [HW.out]; rfl, ba.out⟩
    · by_cases a0 : na = 0
      · subst a0
        by_cases b0 : nb = 0
        · subst b0
          by_cases r0 : R = 0
          · subst r0
            have HW : Hid (V = true) := by show V = true; rw [HV.out]; rfl
            go_enter Tryd.func40, Tryd.ntmps40
            go_wp2_with fail
            all_goals
              with_reducible refine HC.out.mono ?_
              rintro e w1 ⟨rfl, hb1⟩
              have HB := Lib.hid (ba.out.trans (hb1.mono ba.out.size))
              clear hb1
              go_wp2_with fail
              go_ret
              exact ⟨by rw [HW.out]; rfl, HB.out⟩
          · have HW : Hid (V = false) := by show V = false; rw [HV.out]; simp [r0]
            have r1 : (R == 0) = false := by simp [r0]
            clear r0
            go_enter Tryd.func40, Tryd.ntmps40
            go_wp2_with fail
            all_goals
              with_reducible refine HC.out.mono ?_
              rintro e w1 ⟨rfl, hb1⟩
              have HB := Lib.hid (ba.out.trans (hb1.mono ba.out.size))
              clear hb1
              go_wp2_with fail
              go_ret
              exact ⟨by rw [HW.out]; rfl, HB.out⟩
        · have HW : Hid (V = false) := by show V = false; rw [HV.out]; simp [b0]
          have b1 : (nb == 0) = false := by simp [b0]
          clear b0
          go_enter Tryd.func40, Tryd.ntmps40
          go_wp2_with fail
          all_goals
            go_ret
            exact ⟨by rw [HW.out]; rfl, ba.out⟩
      · have HW : Hid (V = false) := by show V = false; rw [HV.out]; simp [a0]
        have a1 : (na == 0) = false := by simp [a0]
        clear a0
        go_enter Tryd.func40, Tryd.ntmps40
        go_wp2_with fail
        all_goals
          go_ret
          exact ⟨by rw [HW.out]; rfl, ba.out⟩
  · by_cases a0 : na = 0
    · subst a0
      by_cases b0 : nb = 0
      · subst b0
        by_cases r0 : R = 0
        · subst r0
          have HW : Hid (V = true) := by show V = true; rw [HV.out]; rfl
          go_enter Tryd.func40, Tryd.ntmps40
          go_wp2_with fail
          all_goals
            with_reducible refine HC.out.mono ?_
            rintro e w1 ⟨rfl, hb1⟩
            have HB := Lib.hid (ba.out.trans (hb1.mono ba.out.size))
            clear hb1
            go_wp2_with fail
            go_ret
            exact ⟨by rw [HW.out]; rfl, HB.out⟩
        · have HW : Hid (V = false) := by show V = false; rw [HV.out]; simp [r0]
          have r1 : (R == 0) = false := by simp [r0]
          clear r0
          go_enter Tryd.func40, Tryd.ntmps40
          go_wp2_with fail
          all_goals
            with_reducible refine HC.out.mono ?_
            rintro e w1 ⟨rfl, hb1⟩
            have HB := Lib.hid (ba.out.trans (hb1.mono ba.out.size))
            clear hb1
            go_wp2_with fail
            go_ret
            exact ⟨by rw [HW.out]; rfl, HB.out⟩
      · have HW : Hid (V = false) := by show V = false; rw [HV.out]; simp [b0]
        have b1 : (nb == 0) = false := by simp [b0]
        clear b0
        go_enter Tryd.func40, Tryd.ntmps40
        go_wp2_with fail
        all_goals
          go_ret
          exact ⟨by rw [HW.out]; rfl, ba.out⟩
    · have HW : Hid (V = false) := by show V = false; rw [HV.out]; simp [a0]
      have a1 : (na == 0) = false := by simp [a0]
      clear a0
      go_enter Tryd.func40, Tryd.ntmps40
      go_wp2_with fail
      all_goals
        go_ret
        exact ⟨by rw [HW.out]; rfl, ba.out⟩

set_option maxHeartbeats 4000000 in
set_option maxRecDepth 100000 in
theorem reffields_2 (n : Nd) (hop : n.op = 2) (h1 : -9223372036854775808 ≤ n.num) (h2 : n.num ≤ 9223372036854775807) (h3 : -9223372036854775808 ≤ n.den) (h4 : n.den ≤ 9223372036854775807) (w : World) :
    Calls Tryd.prog 40 #[n.val] w fun e w' => e = .returned (.bool (fieldsV n)) ∧ Below w.heap.size w w' := by
  obtain ⟨op, na, nb, nn, nd⟩ := n
  unfold Nd.val
  dsimp only at h1 h2 h3 h4 hop ⊢
  obtain ⟨wa, hwa⟩ : ∃ wa, w.alloc (.cells #[.int .i64 op, .int .i64 na, .int .i64 nb, .int .i64 nn, .int .i64 nd] 47) = wa := ⟨_, rfl⟩
  have ba : Hid (Below w.heap.size w wa) := by show Below _ _ _; rw [← hwa]; exact (Below.refl _ _).alloc (Nat.le_refl _) _
  have k0 : Blk wa w.heap.size #[.int .i64 op, .int .i64 na, .int .i64 nb, .int .i64 nn, .int .i64 nd] 47 := by rw [← hwa]; exact Blk.new _ _ _
  have c0 : wa.cell? ⟨w.heap.size, 0, none⟩ = some (.int .i64 op) := k0.cell 0 rfl
  have c1 : wa.cell? ⟨w.heap.size, 1, none⟩ = some (.int .i64 na) := k0.cell 1 rfl
  have c2 : wa.cell? ⟨w.heap.size, 2, none⟩ = some (.int .i64 nb) := k0.cell 2 rfl
  have c3 : wa.cell? ⟨w.heap.size, 3, none⟩ = some (.int .i64 nn) := k0.cell 3 rfl
  have c4 : wa.cell? ⟨w.heap.size, 4, none⟩ = some (.int .i64 nd) := k0.cell 4 rfl
  clear k0
  obtain ⟨V, hV⟩ : ∃ V, fieldsV ⟨op, na, nb, nn, nd⟩ = V := ⟨_, rfl⟩
  rw [hV]
  subst hop
  have HV : Hid (V = fitsV 63 0 ⟨2, na, nb, nn, nd⟩) := by show V = _; rw [← hV]; rfl
  unfold fitsV at HV
  dsimp only at HV
  clear hV h1 h2 h3 h4
  by_cases n0 : nn = 0
  rotate_left
  · have HW : Hid (V = false) := by show V = false; rw [HV.out]; simp [n0]
    go_enter Tryd.func40, Tryd.ntmps40
    go_wp2_with fail
    all_goals
      skip
      go_ret
      exact ⟨by rw [HW.out]; rfl, ba.out⟩
  subst n0
  by_cases d0 : nd = 0
  rotate_left
  · have HW : Hid (V = false) := by show V = false; rw [HV.out]; simp [d0]
    go_enter Tryd.func40, Tryd.ntmps40
    go_wp2_with fail
    all_goals
      skip
      go_ret
      exact ⟨by rw [HW.out]; rfl, ba.out⟩
  subst d0
  by_cases x0 : 0 ≤ na ∧ na ≤ 63
  rotate_left
  · have HW : Hid (V = false) := by
      show V = false
      rw [HV.out]
      have : (decide (0 ≤ na) && decide (na ≤ 63)) = false := by simp; omega
      rw [← Bool.and_assoc, this]
      rfl
    go_enter Tryd.func40, Tryd.ntmps40
    go_wp2_with fail
    with_reducible refine (within_no _ _ x0 _).mono ?_
    rintro e w1 ⟨rfl, rfl⟩
    go_wp2_with fail
    go_ret
    exact ⟨by rw [HW.out]; rfl, ba.out⟩
  obtain ⟨x1, x2⟩ := x0
  have X1 := Lib.hid x1
  have X2 := Lib.hid x2
  by_cases b0 : nb = 0
  · subst b0
    have HW : Hid (V = true) := by show V = true; rw [HV.out]; simp [x1, x2]
    clear x1 x2
    go_enter Tryd.func40, Tryd.ntmps40
    go_wp2_with fail
    with_reducible refine (within_yes _ _ X1.out X2.out _).mono ?_
    rintro e w1 ⟨rfl, rfl⟩
    go_wp2_with fail
    go_ret
    exact ⟨by rw [HW.out]; rfl, ba.out⟩
  · have HW : Hid (V = false) := by show V = false; rw [HV.out]; simp; omega
    have b1 : (nb == 0) = false := by simp [b0]
    clear x1 x2 b0
    go_enter Tryd.func40, Tryd.ntmps40
    go_wp2_with fail
    with_reducible refine (within_yes _ _ X1.out X2.out _).mono ?_
    rintro e w1 ⟨rfl, rfl⟩
    go_wp2_with fail
    go_ret
    exact ⟨by rw [HW.out]; rfl, ba.out⟩
set_option maxHeartbeats 4000000 in
set_option maxRecDepth 100000 in
theorem reffields_16 (n : Nd) (hop : n.op = 16) (h1 : -9223372036854775808 ≤ n.num) (h2 : n.num ≤ 9223372036854775807) (h3 : -9223372036854775808 ≤ n.den) (h4 : n.den ≤ 9223372036854775807) (w : World) :
    Calls Tryd.prog 40 #[n.val] w fun e w' => e = .returned (.bool (fieldsV n)) ∧ Below w.heap.size w w' := by
  obtain ⟨op, na, nb, nn, nd⟩ := n
  unfold Nd.val
  dsimp only at h1 h2 h3 h4 hop ⊢
  obtain ⟨wa, hwa⟩ : ∃ wa, w.alloc (.cells #[.int .i64 op, .int .i64 na, .int .i64 nb, .int .i64 nn, .int .i64 nd] 47) = wa := ⟨_, rfl⟩
  have ba : Hid (Below w.heap.size w wa) := by show Below _ _ _; rw [← hwa]; exact (Below.refl _ _).alloc (Nat.le_refl _) _
  have k0 : Blk wa w.heap.size #[.int .i64 op, .int .i64 na, .int .i64 nb, .int .i64 nn, .int .i64 nd] 47 := by rw [← hwa]; exact Blk.new _ _ _
  have c0 : wa.cell? ⟨w.heap.size, 0, none⟩ = some (.int .i64 op) := k0.cell 0 rfl
  have c1 : wa.cell? ⟨w.heap.size, 1, none⟩ = some (.int .i64 na) := k0.cell 1 rfl
  have c2 : wa.cell? ⟨w.heap.size, 2, none⟩ = some (.int .i64 nb) := k0.cell 2 rfl
  have c3 : wa.cell? ⟨w.heap.size, 3, none⟩ = some (.int .i64 nn) := k0.cell 3 rfl
  have c4 : wa.cell? ⟨w.heap.size, 4, none⟩ = some (.int .i64 nd) := k0.cell 4 rfl
  clear k0
  obtain ⟨V, hV⟩ : ∃ V, fieldsV ⟨op, na, nb, nn, nd⟩ = V := ⟨_, rfl⟩
  rw [hV]
  subst hop
  have HV : Hid (V = fitsV 63 0 ⟨16, na, nb, nn, nd⟩) := by show V = _; rw [← hV]; rfl
  unfold fitsV at HV
  dsimp only at HV
  clear hV h1 h2 h3 h4
  by_cases n0 : nn = 0
  rotate_left
  · have HW : Hid (V = false) := by show V = false; rw [HV.out]; simp [n0]
    go_enter Tryd.func40, Tryd.ntmps40
    go_wp2_with fail
    all_goals
      skip
      go_ret
      exact ⟨by rw [HW.out]; rfl, ba.out⟩
  subst n0
  by_cases d0 : nd = 0
  rotate_left
  · have HW : Hid (V = false) := by show V = false; rw [HV.out]; simp [d0]
    go_enter Tryd.func40, Tryd.ntmps40
    go_wp2_with fail
    all_goals
      skip
      go_ret
      exact ⟨by rw [HW.out]; rfl, ba.out⟩
  subst d0
  by_cases x0 : 0 ≤ na ∧ na ≤ 63
  rotate_left
  · have HW : Hid (V = false) := by
      show V = false
      rw [HV.out]
      have : (decide (0 ≤ na) && decide (na ≤ 63)) = false := by simp; omega
      rw [← Bool.and_assoc, this]
      rfl
    go_enter Tryd.func40, Tryd.ntmps40
    go_wp2_with fail
    with_reducible refine (within_no _ _ x0 _).mono ?_
    rintro e w1 ⟨rfl, rfl⟩
    go_wp2_with fail
    go_ret
    exact ⟨by rw [HW.out]; rfl, ba.out⟩
  obtain ⟨x1, x2⟩ := x0
  have X1 := Lib.hid x1
  have X2 := Lib.hid x2
  by_cases b0 : nb = 0
  · subst b0
    have HW : Hid (V = true) := by show V = true; rw [HV.out]; simp [x1, x2]
    clear x1 x2
    go_enter Tryd.func40, Tryd.ntmps40
    go_wp2_with fail
    with_reducible refine (within_yes _ _ X1.out X2.out _).mono ?_
    rintro e w1 ⟨rfl, rfl⟩
    go_wp2_with fail
    go_ret
    exact ⟨by rw [HW.out]; rfl, ba.out⟩
  · have HW : Hid (V = false) := by show V = false; rw [HV.out]; simp; omega
    have b1 : (nb == 0) = false := by simp [b0]
    clear x1 x2 b0
    go_enter Tryd.func40, Tryd.ntmps40
    go_wp2_with fail
    with_reducible refine (within_yes _ _ X1.out X2.out _).mono ?_
    rintro e w1 ⟨rfl, rfl⟩
    go_wp2_with fail
    go_ret
    exact ⟨by rw [HW.out]; rfl, ba.out⟩
set_option maxHeartbeats 4000000 in
set_option maxRecDepth 100000 in
theorem reffields_10 (n : Nd) (hop : n.op = 10) (h1 : -9223372036854775808 ≤ n.num) (h2 : n.num ≤ 9223372036854775807) (h3 : -9223372036854775808 ≤ n.den) (h4 : n.den ≤ 9223372036854775807) (w : World) :
    Calls Tryd.prog 40 #[n.val] w fun e w' => e = .returned (.bool (fieldsV n)) ∧ Below w.heap.size w w' := by
  obtain ⟨op, na, nb, nn, nd⟩ := n
  unfold Nd.val
  dsimp only at h1 h2 h3 h4 hop ⊢
  obtain ⟨wa, hwa⟩ : ∃ wa, w.alloc (.cells #[.int .i64 op, .int .i64 na, .int .i64 nb, .int .i64 nn, .int .i64 nd] 47) = wa := ⟨_, rfl⟩
  have ba : Hid (Below w.heap.size w wa) := by show Below _ _ _; rw [← hwa]; exact (Below.refl _ _).alloc (Nat.le_refl _) _
  have k0 : Blk wa w.heap.size #[.int .i64 op, .int .i64 na, .int .i64 nb, .int .i64 nn, .int .i64 nd] 47 := by rw [← hwa]; exact Blk.new _ _ _
  have c0 : wa.cell? ⟨w.heap.size, 0, none⟩ = some (.int .i64 op) := k0.cell 0 rfl
  have c1 : wa.cell? ⟨w.heap.size, 1, none⟩ = some (.int .i64 na) := k0.cell 1 rfl
  have c2 : wa.cell? ⟨w.heap.size, 2, none⟩ = some (.int .i64 nb) := k0.cell 2 rfl
  have c3 : wa.cell? ⟨w.heap.size, 3, none⟩ = some (.int .i64 nn) := k0.cell 3 rfl
  have c4 : wa.cell? ⟨w.heap.size, 4, none⟩ = some (.int .i64 nd) := k0.cell 4 rfl
  clear k0
  obtain ⟨V, hV⟩ : ∃ V, fieldsV ⟨op, na, nb, nn, nd⟩ = V := ⟨_, rfl⟩
  rw [hV]
  subst hop
  have HV : Hid (V = fitsV 7 0 ⟨10, na, nb, nn, nd⟩) := by show V = _; rw [← hV]; rfl
  unfold fitsV at HV
  dsimp only at HV
  clear hV h1 h2 h3 h4
  by_cases n0 : nn = 0
  rotate_left
  · have HW : Hid (V = false) := by show V = false; rw [HV.out]; simp [n0]
    go_enter Tryd.func40, Tryd.ntmps40
    go_wp2_with fail
    all_goals
      skip
      go_ret
      exact ⟨by rw [HW.out]; rfl, ba.out⟩
  subst n0
  by_cases d0 : nd = 0
  rotate_left
  · have HW : Hid (V = false) := by show V = false; rw [HV.out]; simp [d0]
    go_enter Tryd.func40, Tryd.ntmps40
    go_wp2_with fail
    all_goals
      skip
      go_ret
      exact ⟨by rw [HW.out]; rfl, ba.out⟩
  subst d0
  by_cases x0 : 0 ≤ na ∧ na ≤ 7
  rotate_left
  · have HW : Hid (V = false) := by
      show V = false
      rw [HV.out]
      have : (decide (0 ≤ na) && decide (na ≤ 7)) = false := by simp; omega
      rw [← Bool.and_assoc, this]
      rfl
    go_enter Tryd.func40, Tryd.ntmps40
    go_wp2_with fail
    with_reducible refine (within_no _ _ x0 _).mono ?_
    rintro e w1 ⟨rfl, rfl⟩
    go_wp2_with fail
    go_ret
    exact ⟨by rw [HW.out]; rfl, ba.out⟩
  obtain ⟨x1, x2⟩ := x0
  have X1 := Lib.hid x1
  have X2 := Lib.hid x2
  by_cases b0 : nb = 0
  · subst b0
    have HW : Hid (V = true) := by show V = true; rw [HV.out]; simp [x1, x2]
    clear x1 x2
    go_enter Tryd.func40, Tryd.ntmps40
    go_wp2_with fail
    with_reducible refine (within_yes _ _ X1.out X2.out _).mono ?_
    rintro e w1 ⟨rfl, rfl⟩
    go_wp2_with fail
    go_ret
    exact ⟨by rw [HW.out]; rfl, ba.out⟩
  · have HW : Hid (V = false) := by show V = false; rw [HV.out]; simp; omega
    have b1 : (nb == 0) = false := by simp [b0]
    clear x1 x2 b0
    go_enter Tryd.func40, Tryd.ntmps40
    go_wp2_with fail
    with_reducible refine (within_yes _ _ X1.out X2.out _).mono ?_
    rintro e w1 ⟨rfl, rfl⟩
    go_wp2_with fail
    go_ret
    exact ⟨by rw [HW.out]; rfl, ba.out⟩
set_option maxHeartbeats 4000000 in
set_option maxRecDepth 100000 in
theorem reffields_14 (n : Nd) (hop : n.op = 14) (h1 : -9223372036854775808 ≤ n.num) (h2 : n.num ≤ 9223372036854775807) (h3 : -9223372036854775808 ≤ n.den) (h4 : n.den ≤ 9223372036854775807) (w : World) :
    Calls Tryd.prog 40 #[n.val] w fun e w' => e = .returned (.bool (fieldsV n)) ∧ Below w.heap.size w w' := by
  obtain ⟨op, na, nb, nn, nd⟩ := n
  unfold Nd.val
  dsimp only at h1 h2 h3 h4 hop ⊢
  obtain ⟨wa, hwa⟩ : ∃ wa, w.alloc (.cells #[.int .i64 op, .int .i64 na, .int .i64 nb, .int .i64 nn, .int .i64 nd] 47) = wa := ⟨_, rfl⟩
  have ba : Hid (Below w.heap.size w wa) := by show Below _ _ _; rw [← hwa]; exact (Below.refl _ _).alloc (Nat.le_refl _) _
  have k0 : Blk wa w.heap.size #[.int .i64 op, .int .i64 na, .int .i64 nb, .int .i64 nn, .int .i64 nd] 47 := by rw [← hwa]; exact Blk.new _ _ _
  have c0 : wa.cell? ⟨w.heap.size, 0, none⟩ = some (.int .i64 op) := k0.cell 0 rfl
  have c1 : wa.cell? ⟨w.heap.size, 1, none⟩ = some (.int .i64 na) := k0.cell 1 rfl
  have c2 : wa.cell? ⟨w.heap.size, 2, none⟩ = some (.int .i64 nb) := k0.cell 2 rfl
  have c3 : wa.cell? ⟨w.heap.size, 3, none⟩ = some (.int .i64 nn) := k0.cell 3 rfl
  have c4 : wa.cell? ⟨w.heap.size, 4, none⟩ = some (.int .i64 nd) := k0.cell 4 rfl
  clear k0
  obtain ⟨V, hV⟩ : ∃ V, fieldsV ⟨op, na, nb, nn, nd⟩ = V := ⟨_, rfl⟩
  rw [hV]
  subst hop
  have HV : Hid (V = fitsV 73048 0 ⟨14, na, nb, nn, nd⟩) := by show V = _; rw [← hV]; rfl
  unfold fitsV at HV
  dsimp only at HV
  clear hV h1 h2 h3 h4
  by_cases n0 : nn = 0
  rotate_left
  · have HW : Hid (V = false) := by show V = false; rw [HV.out]; simp [n0]
    go_enter Tryd.func40, Tryd.ntmps40
    go_wp2_with fail
    all_goals
      skip
      go_ret
      exact ⟨by rw [HW.out]; rfl, ba.out⟩
  subst n0
  by_cases d0 : nd = 0
  rotate_left
  · have HW : Hid (V = false) := by show V = false; rw [HV.out]; simp [d0]
    go_enter Tryd.func40, Tryd.ntmps40
    go_wp2_with fail
    all_goals
      skip
      go_ret
      exact ⟨by rw [HW.out]; rfl, ba.out⟩
  subst d0
  by_cases x0 : 0 ≤ na ∧ na ≤ 73048
  rotate_left
  · have HW : Hid (V = false) := by
      show V = false
      rw [HV.out]
      have : (decide (0 ≤ na) && decide (na ≤ 73048)) = false := by simp; omega
      rw [← Bool.and_assoc, this]
      rfl
    go_enter Tryd.func40, Tryd.ntmps40
    go_wp2_with fail
    with_reducible refine (within_no _ _ x0 _).mono ?_
    rintro e w1 ⟨rfl, rfl⟩
    go_wp2_with fail
    go_ret
    exact ⟨by rw [HW.out]; rfl, ba.out⟩
  obtain ⟨x1, x2⟩ := x0
  have X1 := Lib.hid x1
  have X2 := Lib.hid x2
  by_cases b0 : nb = 0
  · subst b0
    have HW : Hid (V = true) := by show V = true; rw [HV.out]; simp [x1, x2]
    clear x1 x2
    go_enter Tryd.func40, Tryd.ntmps40
    go_wp2_with fail
    with_reducible refine (within_yes _ _ X1.out X2.out _).mono ?_
    rintro e w1 ⟨rfl, rfl⟩
    go_wp2_with fail
    go_ret
    exact ⟨by rw [HW.out]; rfl, ba.out⟩
  · have HW : Hid (V = false) := by show V = false; rw [HV.out]; simp; omega
    have b1 : (nb == 0) = false := by simp [b0]
    clear x1 x2 b0
    go_enter Tryd.func40, Tryd.ntmps40
    go_wp2_with fail
    with_reducible refine (within_yes _ _ X1.out X2.out _).mono ?_
    rintro e w1 ⟨rfl, rfl⟩
    go_wp2_with fail
    go_ret
    exact ⟨by rw [HW.out]; rfl, ba.out⟩
set_option maxHeartbeats 4000000 in
set_option maxRecDepth 100000 in
theorem reffields_17 (n : Nd) (hop : n.op = 17) (h1 : -9223372036854775808 ≤ n.num) (h2 : n.num ≤ 9223372036854775807) (h3 : -9223372036854775808 ≤ n.den) (h4 : n.den ≤ 9223372036854775807) (w : World) :
    Calls Tryd.prog 40 #[n.val] w fun e w' => e = .returned (.bool (fieldsV n)) ∧ Below w.heap.size w w' := by
  obtain ⟨op, na, nb, nn, nd⟩ := n
  unfold Nd.val
  dsimp only at h1 h2 h3 h4 hop ⊢
  obtain ⟨wa, hwa⟩ : ∃ wa, w.alloc (.cells #[.int .i64 op, .int .i64 na, .int .i64 nb, .int .i64 nn, .int .i64 nd] 47) = wa := ⟨_, rfl⟩
  have ba : Hid (Below w.heap.size w wa) := by show Below _ _ _; rw [← hwa]; exact (Below.refl _ _).alloc (Nat.le_refl _) _
  have k0 : Blk wa w.heap.size #[.int .i64 op, .int .i64 na, .int .i64 nb, .int .i64 nn, .int .i64 nd] 47 := by rw [← hwa]; exact Blk.new _ _ _
  have c0 : wa.cell? ⟨w.heap.size, 0, none⟩ = some (.int .i64 op) := k0.cell 0 rfl
  have c1 : wa.cell? ⟨w.heap.size, 1, none⟩ = some (.int .i64 na) := k0.cell 1 rfl
  have c2 : wa.cell? ⟨w.heap.size, 2, none⟩ = some (.int .i64 nb) := k0.cell 2 rfl
  have c3 : wa.cell? ⟨w.heap.size, 3, none⟩ = some (.int .i64 nn) := k0.cell 3 rfl
  have c4 : wa.cell? ⟨w.heap.size, 4, none⟩ = some (.int .i64 nd) := k0.cell 4 rfl
  clear k0
  obtain ⟨V, hV⟩ : ∃ V, fieldsV ⟨op, na, nb, nn, nd⟩ = V := ⟨_, rfl⟩
  rw [hV]
  subst hop
  have HV : Hid (V = fitsV 63 73048 ⟨17, na, nb, nn, nd⟩) := by show V = _; rw [← hV]; rfl
  unfold fitsV at HV
  dsimp only at HV
  clear hV h1 h2 h3 h4
  by_cases n0 : nn = 0
  rotate_left
  · have HW : Hid (V = false) := by show V = false; rw [HV.out]; simp [n0]
    go_enter Tryd.func40, Tryd.ntmps40
    go_wp2_with fail
    all_goals
      skip
      go_ret
      exact ⟨by rw [HW.out]; rfl, ba.out⟩
  subst n0
  by_cases d0 : nd = 0
  rotate_left
  · have HW : Hid (V = false) := by show V = false; rw [HV.out]; simp [d0]
    go_enter Tryd.func40, Tryd.ntmps40
    go_wp2_with fail
    all_goals
      skip
      go_ret
      exact ⟨by rw [HW.out]; rfl, ba.out⟩
  subst d0
  by_cases x0 : 0 ≤ na ∧ na ≤ 63
  rotate_left
  · have HW : Hid (V = false) := by
      show V = false
      rw [HV.out]
      have : (decide (0 ≤ na) && decide (na ≤ 63)) = false := by simp; omega
      rw [← Bool.and_assoc, this]
      rfl
    go_enter Tryd.func40, Tryd.ntmps40
    go_wp2_with fail
    with_reducible refine (within_no _ _ x0 _).mono ?_
    rintro e w1 ⟨rfl, rfl⟩
    go_wp2_with fail
    go_ret
    exact ⟨by rw [HW.out]; rfl, ba.out⟩
  obtain ⟨x1, x2⟩ := x0
  have X1 := Lib.hid x1
  have X2 := Lib.hid x2
  by_cases y0 : 0 ≤ nb ∧ nb ≤ 73048
  · have HW : Hid (V = true) := by show V = true; rw [HV.out]; simp [x1, x2, y0.1, y0.2]
    clear x1 x2
    go_enter Tryd.func40, Tryd.ntmps40
    go_wp2_with fail
    with_reducible refine (within_yes _ _ X1.out X2.out _).mono ?_
    rintro e w1 ⟨rfl, rfl⟩
    go_wp2_with fail
    with_reducible refine (within_yes _ _ y0.1 y0.2 _).mono ?_
    rintro e w1 ⟨rfl, rfl⟩
    go_wp2_with fail
    go_ret
    exact ⟨by rw [HW.out]; rfl, ba.out⟩
  · have HW : Hid (V = false) := by show V = false; rw [HV.out]; simp; omega
    have Y := Lib.hid y0
    clear x1 x2 y0
    go_enter Tryd.func40, Tryd.ntmps40
    go_wp2_with fail
    with_reducible refine (within_yes _ _ X1.out X2.out _).mono ?_
    rintro e w1 ⟨rfl, rfl⟩
    go_wp2_with fail
    with_reducible refine (within_no _ _ Y.out _).mono ?_
    rintro e w1 ⟨rfl, rfl⟩
    go_wp2_with fail
    go_ret
    exact ⟨by rw [HW.out]; rfl, ba.out⟩

set_option maxHeartbeats 4000000 in
set_option maxRecDepth 100000 in
theorem reffields_else (n : Nd) (hop : n.op ≠ 1 ∧ n.op ≠ 2 ∧ n.op ≠ 16 ∧ n.op ≠ 10 ∧ n.op ≠ 14 ∧ n.op ≠ 17) (h1 : -9223372036854775808 ≤ n.num) (h2 : n.num ≤ 9223372036854775807) (h3 : -9223372036854775808 ≤ n.den) (h4 : n.den ≤ 9223372036854775807) (w : World) :
    Calls Tryd.prog 40 #[n.val] w fun e w' => e = .returned (.bool (fieldsV n)) ∧ Below w.heap.size w w' := by
  obtain ⟨op, na, nb, nn, nd⟩ := n
  unfold Nd.val
  dsimp only at h1 h2 h3 h4 hop ⊢
  obtain ⟨wa, hwa⟩ : ∃ wa, w.alloc (.cells #[.int .i64 op, .int .i64 na, .int .i64 nb, .int .i64 nn, .int .i64 nd] 47) = wa := ⟨_, rfl⟩
  have ba : Hid (Below w.heap.size w wa) := by show Below _ _ _; rw [← hwa]; exact (Below.refl _ _).alloc (Nat.le_refl _) _
  have k0 : Blk wa w.heap.size #[.int .i64 op, .int .i64 na, .int .i64 nb, .int .i64 nn, .int .i64 nd] 47 := by rw [← hwa]; exact Blk.new _ _ _
  have c0 : wa.cell? ⟨w.heap.size, 0, none⟩ = some (.int .i64 op) := k0.cell 0 rfl
  have c1 : wa.cell? ⟨w.heap.size, 1, none⟩ = some (.int .i64 na) := k0.cell 1 rfl
  have c2 : wa.cell? ⟨w.heap.size, 2, none⟩ = some (.int .i64 nb) := k0.cell 2 rfl
  have c3 : wa.cell? ⟨w.heap.size, 3, none⟩ = some (.int .i64 nn) := k0.cell 3 rfl
  have c4 : wa.cell? ⟨w.heap.size, 4, none⟩ = some (.int .i64 nd) := k0.cell 4 rfl
  clear k0
  obtain ⟨V, hV⟩ : ∃ V, fieldsV ⟨op, na, nb, nn, nd⟩ = V := ⟨_, rfl⟩
  rw [hV]
  obtain ⟨o1, o2, o16, o10, o14, o17⟩ := hop
  have HV : Hid (V = fitsV 0 0 ⟨op, na, nb, nn, nd⟩) := by
    show V = _
    rw [← hV]
    unfold fieldsV limV
    simp only [o1, o2, o16, o10, o14, o17, if_false, or_self]
  unfold fitsV at HV
  dsimp only at HV
  have t1 : (op == 1) = false := by simp [o1]
  have t2 : (op == 2) = false := by simp [o2]
  have t16 : (op == 16) = false := by simp [o16]
  have t10 : (op == 10) = false := by simp [o10]
  have t14 : (op == 14) = false := by simp [o14]
  have t17 : (op == 17) = false := by simp [o17]
  clear hV h1 h2 h3 h4 o1 o2 o16 o10 o14 o17
  by_cases n0 : nn = 0
  rotate_left
  · have HW : Hid (V = false) := by show V = false; rw [HV.out]; simp [n0]
    go_enter Tryd.func40, Tryd.ntmps40
    go_wp2_with fail
    all_goals
      skip
      go_ret
      exact ⟨by rw [HW.out]; rfl, ba.out⟩
  subst n0
  by_cases d0 : nd = 0
  rotate_left
  · have HW : Hid (V = false) := by show V = false; rw [HV.out]; simp [d0]
    go_enter Tryd.func40, Tryd.ntmps40
    go_wp2_with fail
    all_goals
      skip
      go_ret
      exact ⟨by rw [HW.out]; rfl, ba.out⟩
  subst d0
  by_cases a0 : na = 0
  · subst a0
    by_cases b0 : nb = 0
    · subst b0
      have HW : Hid (V = true) := by show V = true; rw [HV.out]; rfl
      go_enter Tryd.func40, Tryd.ntmps40
      go_wp2_with fail
      all_goals
        skip
        go_ret
        exact ⟨by rw [HW.out]; rfl, ba.out⟩
    · have HW : Hid (V = false) := by show V = false; rw [HV.out]; simp; omega
      have b1 : (nb == 0) = false := by simp [b0]
      clear b0
      go_enter Tryd.func40, Tryd.ntmps40
      go_wp2_with fail
      all_goals
        skip
        go_ret
        exact ⟨by rw [HW.out]; rfl, ba.out⟩
  · have HW : Hid (V = false) := by show V = false; rw [HV.out]; simp; omega
    have a1 : (na == 0) = false := by simp [a0]
    clear a0
    go_enter Tryd.func40, Tryd.ntmps40
    go_wp2_with fail
    all_goals
      skip
      go_ret
      exact ⟨by rw [HW.out]; rfl, ba.out⟩

theorem reffields_ok (n : Nd) (h1 : -9223372036854775808 ≤ n.num) (h2 : n.num ≤ 9223372036854775807) (h3 : -9223372036854775808 ≤ n.den) (h4 : n.den ≤ 9223372036854775807) (w : World) :
    Calls Tryd.prog 40 #[n.val] w fun e w' => e = .returned (.bool (fieldsV n)) ∧ Below w.heap.size w w' := by
  by_cases e1 : n.op = 1
  · exact reffields_one n e1 h1 h2 h3 h4 w
  by_cases e2 : n.op = 2
  · exact reffields_2 n e2 h1 h2 h3 h4 w
  by_cases e16 : n.op = 16
  · exact reffields_16 n e16 h1 h2 h3 h4 w
  by_cases e10 : n.op = 10
  · exact reffields_10 n e10 h1 h2 h3 h4 w
  by_cases e14 : n.op = 14
  · exact reffields_14 n e14 h1 h2 h3 h4 w
  by_cases e17 : n.op = 17
  · exact reffields_17 n e17 h1 h2 h3 h4 w
  exact reffields_else n ⟨e1, e2, e16, e10, e14, e17⟩ h1 h2 h3 h4 w

end Go.Proofs.YtglnnllodoljkaaDoor
