/- Package facts: the order of a row's entries: cmp.Compare, cmp.Or, the closures. -/
import Derived.Test.YtkloijkfaooodaaFacEa
namespace Go.Proofs.Ytkloijkfaooodaa
open Go.RowKit Go.Sort
set_option linter.unusedVariables false
set_option linter.unusedSimpArgs false

set_option maxHeartbeats 1000000 in
theorem or_ok (a c : Int) (b cap : Nat) (w : World) (c0 : w.cell? ⟨b, 0, none⟩ = some (.int .i64 a)) (c1 : w.cell? ⟨b, 1, none⟩ = some (.int .i64 c)) :
    Calls Try.prog 87 #[.slice (some ⟨b, 0, none⟩) 2 cap] w fun e w' => e = .returned (.int .i64 (if a = 0 then c else a)) ∧ w' = w := by
  by_cases h : a = 0
  · rw [if_pos h]
    subst h
    by_cases h2 : c = 0
    · subst h2
      go_enter Try.func87, Try.ntmps87
      go_wp2_with fail
      refine wp_loop_rounds 3 ?_
      rw [rounds_succ]
      go_wp2_with fail
      rw [rounds_succ]
      go_wp2_with fail
      rw [rounds_succ]
      go_wp2_with fail
      go_ret
      exact ⟨rfl, rfl⟩
    · have h' : (c == 0) = false := by simpa using h2
      clear h2
      go_enter Try.func87, Try.ntmps87
      go_wp2_with fail
      refine wp_loop_rounds 2 ?_
      rw [rounds_succ]
      go_wp2_with fail
      rw [rounds_succ]
      go_wp2_with fail
      go_ret
      exact ⟨rfl, rfl⟩
  · rw [if_neg h]
    have h' : (a == 0) = false := by simpa using h
    clear h
    go_enter Try.func87, Try.ntmps87
    go_wp2_with fail
    refine wp_loop_rounds 1 ?_
    rw [rounds_succ]
    go_wp2_with fail
    go_ret
    exact ⟨rfl, rfl⟩

/-- How two places are to one another. -/
def cmpKD (a b : KD) : Int := if cmpI a.1 b.1 = 0 then cmpI a.2 b.2 else cmpI a.1 b.1
theorem cmpKD_lt (a b : KD) : decide (cmpKD a b < 0) = decide (ltK a b) := by
  rw [Bool.eq_iff_iff, decide_eq_true_iff, decide_eq_true_iff]
  unfold cmpKD cmpI ltK
  split <;> split at * <;> (try split at *) <;> (try split at *) <;> omega


set_option maxHeartbeats 1000000 in
set_option maxRecDepth 100000 in
theorem cloX_ok (x y : Fx) (W : World) : Calls Try.prog 86 #[.agg (encEX x).toArray, .agg (encEX y).toArray] W fun e w' => e = .returned (.int .i64 (cmpKD x.ky y.ky)) ∧ ∃ q os', w' = grow (W.drewN q) os' := by
  obtain ⟨k1, d1, n1, m1⟩ := x
  obtain ⟨k2, d2, n2, m2⟩ := y
  show Calls _ _ #[.agg #[.int .i64 k1, .int .i64 d1, .int .i64 k1, .int .i64 d1, .int .i64 n1, .int .i64 m1], .agg #[.int .i64 k2, .int .i64 d2, .int .i64 k2, .int .i64 d2, .int .i64 n2, .int .i64 m2]] _ fun e w' => e = .returned (.int .i64 (cmpKD (k1, d1) (k2, d2))) ∧ _
  have H1 := Lib.hid (fun x y W => cmpi_ok x y W)
  have HV : Hid (cmpKD (k1, d1) (k2, d2) = if cmpI k1 k2 = 0 then cmpI d1 d2 else cmpI k1 k2) := rfl
  obtain ⟨F, hF⟩ : ∃ F, cmpI = F := ⟨_, rfl⟩
  rw [hF] at H1 HV
  rw [HV.out]
  obtain ⟨V, hV⟩ : ∃ V, (if F k1 k2 = 0 then F d1 d2 else F k1 k2) = V := ⟨_, rfl⟩
  rw [hV]
  have HVV := Lib.hid hV
  clear hF HV hV
  go_enter Try.func86, Try.ntmps86
  go_wp2_with fail
  obtain ⟨Wa, hWa⟩ : ∃ Wa, (W.alloc (.cells #[.int .i64 k1, .int .i64 d1, .int .i64 k1, .int .i64 d1, .int .i64 n1, .int .i64 m1] 163)).alloc (.cells #[.int .i64 k2, .int .i64 d2, .int .i64 k2, .int .i64 d2, .int .i64 n2, .int .i64 m2] 163) = Wa := ⟨_, rfl⟩
  have kb : Blk Wa (W.heap.size + 1) #[.int .i64 k2, .int .i64 d2, .int .i64 k2, .int .i64 d2, .int .i64 n2, .int .i64 m2] 163 := by
    rw [← hWa]
    have := Blk.new (W.alloc (.cells #[.int .i64 k1, .int .i64 d1, .int .i64 k1, .int .i64 d1, .int .i64 n1, .int .i64 m1] 163)) #[.int .i64 k2, .int .i64 d2, .int .i64 k2, .int .i64 d2, .int .i64 n2, .int .i64 m2] 163
    simpa using this
  have ka : Blk Wa W.heap.size #[.int .i64 k1, .int .i64 d1, .int .i64 k1, .int .i64 d1, .int .i64 n1, .int .i64 m1] 163 := by
    rw [← hWa]
    exact (Blk.new W #[.int .i64 k1, .int .i64 d1, .int .i64 k1, .int .i64 d1, .int .i64 n1, .int .i64 m1] 163).grown (World.grownBy_alloc _ _ none) (by simp)
  have HWA := Lib.hid hWa
  have a0 : Wa.cell? ⟨W.heap.size, 0, none⟩ = some (.int .i64 k1) := ka.cell 0 rfl
  have a1 : Wa.cell? ⟨W.heap.size, 1, none⟩ = some (.int .i64 d1) := ka.cell 1 rfl
  have b0 : Wa.cell? ⟨W.heap.size + 1, 0, none⟩ = some (.int .i64 k2) := kb.cell 0 rfl
  have b1 : Wa.cell? ⟨W.heap.size + 1, 1, none⟩ = some (.int .i64 d2) := kb.cell 1 rfl
  rw [hWa]
  clear hWa
  have HA := Lib.hid (show Wa.drew.cell? ⟨W.heap.size, 0, none⟩ = some (.int .i64 k1) ∧ Wa.drew.cell? ⟨W.heap.size, 1, none⟩ = some (.int .i64 d1) ∧ Wa.drew.cell? ⟨W.heap.size + 1, 0, none⟩ = some (.int .i64 k2) ∧ Wa.drew.cell? ⟨W.heap.size + 1, 1, none⟩ = some (.int .i64 d2) from ⟨a0, a1, b0, b1⟩)
  have HB := Lib.hid (show ∀ o, (Wa.alloc o).drew.cell? ⟨W.heap.size, 0, none⟩ = some (.int .i64 k1) ∧ (Wa.alloc o).drew.cell? ⟨W.heap.size, 1, none⟩ = some (.int .i64 d1) ∧ (Wa.alloc o).drew.cell? ⟨W.heap.size + 1, 0, none⟩ = some (.int .i64 k2) ∧ (Wa.alloc o).drew.cell? ⟨W.heap.size + 1, 1, none⟩ = some (.int .i64 d2) from fun o => by
    have B := ((RowKit.Below.refl Wa.heap.size Wa).alloc (Nat.le_refl _) o).drew
    exact ⟨(ka.after B).cell 0 rfl, (ka.after B).cell 1 rfl, (kb.after B).cell 0 rfl, (kb.after B).cell 1 rfl⟩)
  clear ka kb
  have HO := Lib.hid (or_ok (F k1 k2) (F d1 d2) Wa.heap.size 2 (Wa.alloc (.cells #[.int .i64 (F k1 k2), .int .i64 (F d1 d2)] 3)).drew ((Blk.new Wa #[.int .i64 (F k1 k2), .int .i64 (F d1 d2)] 3).cell 0 rfl) ((Blk.new Wa #[.int .i64 (F k1 k2), .int .i64 (F d1 d2)] 3).cell 1 rfl))
  rw [HVV.out] at HO
  go_region_held3 (fun w' => w'.cell? ⟨W.heap.size, 0, none⟩ = some (.int .i64 k1) ∧ w'.cell? ⟨W.heap.size, 1, none⟩ = some (.int .i64 d1) ∧ w'.cell? ⟨W.heap.size + 1, 0, none⟩ = some (.int .i64 k2) ∧ w'.cell? ⟨W.heap.size + 1, 1, none⟩ = some (.int .i64 d2))
    (first | with_reducible exact HA.out | with_reducible exact HB.out _)
    (first
      | (go_at_call 50; refine (H1.out _ _ _).mono ?_; rintro e w1 ⟨rfl, rfl⟩)
      | (go_at_call 87; with_reducible refine HO.out.mono ?_; rintro e w1 ⟨rfl, rfl⟩))
  go_wp2_with fail
  go_ret
  exact ⟨rfl, 1, _, by rw [← HWA.out, alloc_eq_grow, alloc_eq_grow, alloc_eq_grow, grow_grow, grow_grow]; rfl⟩

set_option maxHeartbeats 1000000 in
set_option maxRecDepth 100000 in
theorem cloH_ok (x y : Ch) (W : World) : Calls Try.prog 90 #[.agg (encEH x).toArray, .agg (encEH y).toArray] W fun e w' => e = .returned (.int .i64 (cmpKD x.ky y.ky)) ∧ ∃ q os', w' = grow (W.drewN q) os' := by
  obtain ⟨k1, d1, n1⟩ := x
  obtain ⟨k2, d2, n2⟩ := y
  show Calls _ _ #[.agg #[.int .i64 k1, .int .i64 d1, .int .i64 k1, .int .i64 d1, .int .i64 n1], .agg #[.int .i64 k2, .int .i64 d2, .int .i64 k2, .int .i64 d2, .int .i64 n2]] _ fun e w' => e = .returned (.int .i64 (cmpKD (k1, d1) (k2, d2))) ∧ _
  have H1 := Lib.hid (fun x y W => cmpi_ok x y W)
  have HV : Hid (cmpKD (k1, d1) (k2, d2) = if cmpI k1 k2 = 0 then cmpI d1 d2 else cmpI k1 k2) := rfl
  obtain ⟨F, hF⟩ : ∃ F, cmpI = F := ⟨_, rfl⟩
  rw [hF] at H1 HV
  rw [HV.out]
  obtain ⟨V, hV⟩ : ∃ V, (if F k1 k2 = 0 then F d1 d2 else F k1 k2) = V := ⟨_, rfl⟩
  rw [hV]
  have HVV := Lib.hid hV
  clear hF HV hV
  go_enter Try.func90, Try.ntmps90
  go_wp2_with fail
  obtain ⟨Wa, hWa⟩ : ∃ Wa, (W.alloc (.cells #[.int .i64 k1, .int .i64 d1, .int .i64 k1, .int .i64 d1, .int .i64 n1] 170)).alloc (.cells #[.int .i64 k2, .int .i64 d2, .int .i64 k2, .int .i64 d2, .int .i64 n2] 170) = Wa := ⟨_, rfl⟩
  have kb : Blk Wa (W.heap.size + 1) #[.int .i64 k2, .int .i64 d2, .int .i64 k2, .int .i64 d2, .int .i64 n2] 170 := by
    rw [← hWa]
    have := Blk.new (W.alloc (.cells #[.int .i64 k1, .int .i64 d1, .int .i64 k1, .int .i64 d1, .int .i64 n1] 170)) #[.int .i64 k2, .int .i64 d2, .int .i64 k2, .int .i64 d2, .int .i64 n2] 170
    simpa using this
  have ka : Blk Wa W.heap.size #[.int .i64 k1, .int .i64 d1, .int .i64 k1, .int .i64 d1, .int .i64 n1] 170 := by
    rw [← hWa]
    exact (Blk.new W #[.int .i64 k1, .int .i64 d1, .int .i64 k1, .int .i64 d1, .int .i64 n1] 170).grown (World.grownBy_alloc _ _ none) (by simp)
  have HWA := Lib.hid hWa
  have a0 : Wa.cell? ⟨W.heap.size, 0, none⟩ = some (.int .i64 k1) := ka.cell 0 rfl
  have a1 : Wa.cell? ⟨W.heap.size, 1, none⟩ = some (.int .i64 d1) := ka.cell 1 rfl
  have b0 : Wa.cell? ⟨W.heap.size + 1, 0, none⟩ = some (.int .i64 k2) := kb.cell 0 rfl
  have b1 : Wa.cell? ⟨W.heap.size + 1, 1, none⟩ = some (.int .i64 d2) := kb.cell 1 rfl
  rw [hWa]
  clear hWa
  have HA := Lib.hid (show Wa.drew.cell? ⟨W.heap.size, 0, none⟩ = some (.int .i64 k1) ∧ Wa.drew.cell? ⟨W.heap.size, 1, none⟩ = some (.int .i64 d1) ∧ Wa.drew.cell? ⟨W.heap.size + 1, 0, none⟩ = some (.int .i64 k2) ∧ Wa.drew.cell? ⟨W.heap.size + 1, 1, none⟩ = some (.int .i64 d2) from ⟨a0, a1, b0, b1⟩)
  have HB := Lib.hid (show ∀ o, (Wa.alloc o).drew.cell? ⟨W.heap.size, 0, none⟩ = some (.int .i64 k1) ∧ (Wa.alloc o).drew.cell? ⟨W.heap.size, 1, none⟩ = some (.int .i64 d1) ∧ (Wa.alloc o).drew.cell? ⟨W.heap.size + 1, 0, none⟩ = some (.int .i64 k2) ∧ (Wa.alloc o).drew.cell? ⟨W.heap.size + 1, 1, none⟩ = some (.int .i64 d2) from fun o => by
    have B := ((RowKit.Below.refl Wa.heap.size Wa).alloc (Nat.le_refl _) o).drew
    exact ⟨(ka.after B).cell 0 rfl, (ka.after B).cell 1 rfl, (kb.after B).cell 0 rfl, (kb.after B).cell 1 rfl⟩)
  clear ka kb
  have HO := Lib.hid (or_ok (F k1 k2) (F d1 d2) Wa.heap.size 2 (Wa.alloc (.cells #[.int .i64 (F k1 k2), .int .i64 (F d1 d2)] 3)).drew ((Blk.new Wa #[.int .i64 (F k1 k2), .int .i64 (F d1 d2)] 3).cell 0 rfl) ((Blk.new Wa #[.int .i64 (F k1 k2), .int .i64 (F d1 d2)] 3).cell 1 rfl))
  rw [HVV.out] at HO
  go_region_held3 (fun w' => w'.cell? ⟨W.heap.size, 0, none⟩ = some (.int .i64 k1) ∧ w'.cell? ⟨W.heap.size, 1, none⟩ = some (.int .i64 d1) ∧ w'.cell? ⟨W.heap.size + 1, 0, none⟩ = some (.int .i64 k2) ∧ w'.cell? ⟨W.heap.size + 1, 1, none⟩ = some (.int .i64 d2))
    (first | with_reducible exact HA.out | with_reducible exact HB.out _)
    (first
      | (go_at_call 50; refine (H1.out _ _ _).mono ?_; rintro e w1 ⟨rfl, rfl⟩)
      | (go_at_call 87; with_reducible refine HO.out.mono ?_; rintro e w1 ⟨rfl, rfl⟩))
  go_wp2_with fail
  go_ret
  exact ⟨rfl, 1, _, by rw [← HWA.out, alloc_eq_grow, alloc_eq_grow, alloc_eq_grow, grow_grow, grow_grow]; rfl⟩

end Go.Proofs.Ytkloijkfaooodaa
