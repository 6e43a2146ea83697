/- Package adjust: places, their order. -/
import Derived.Test.YtmjgcenhgpkhiaaDoorOrd
import Derived.Test.YtmjgcenhgpkhiaaDoorAdD
import Derived.Test.YtmjgcenhgpkhiaaDoorTurn
import Derived.Deep.RegionHeld3
import Derived.Deep.DrawnRows
import Derived.Deep.QuietTactic
import Derived.BigGuardPart
namespace Go.Proofs.YtmjgcenhgpkhiaaDoor
open Go.RowKit Go.Sort Go.Shelf
set_option linter.unusedVariables false
set_option linter.unusedSimpArgs false

abbrev encP (k : KD) : List Value := [.int .i64 k.1, .int .i64 k.2]
theorem encP_one : ∀ k : KD, ∀ v ∈ encP k, v.oneCell' = true := fun x v hv => by simp [encP] at hv; rcases hv with rfl | rfl <;> rfl
theorem infoPl : (Tryd.prog.info? 91).map (fun i => (i.zero, i.size, i.bytes)) = some (some (.agg #[.int .i64 0, .int .i64 0]), 2, 16) := by kernel_rfl

set_option maxHeartbeats 1000000 in
set_option maxRecDepth 100000 in
theorem compare_ok (x y : KD) (W : World) : Calls Tryd.prog 55 #[.agg (encP x).toArray, .agg (encP y).toArray] W fun e w' => e = .returned (.int .i64 (cmpKD x y)) ∧ ∃ q os', w' = grow (W.drewN q) os' := by
  obtain ⟨k1, d1⟩ := x
  obtain ⟨k2, d2⟩ := y
  show Calls _ _ #[.agg #[.int .i64 k1, .int .i64 d1], .agg #[.int .i64 k2, .int .i64 d2]] _ fun e w' => e = .returned (.int .i64 (cmpKD (k1, d1) (k2, d2))) ∧ _
  have H1 := Lib.hid (fun x y W => cmpi_ok x y W)
  have HV : Hid (cmpKD (k1, d1) (k2, d2) = if cmpI k1 k2 = 0 then cmpI d1 d2 else cmpI k1 k2) := rfl
  obtain ⟨F, hF⟩ : ∃ F, cmpI = F := ⟨_, rfl⟩
  rw [hF] at H1 HV
  rw [HV.out]
  obtain ⟨V, hV⟩ : ∃ V, (if F k1 k2 = 0 then F d1 d2 else F k1 k2) = V := ⟨_, rfl⟩
  rw [hV]
  have HVV := Lib.hid hV
  clear hF HV hV
  go_enter Tryd.func55, Tryd.ntmps55
  go_wp2_with fail
  obtain ⟨Wa, hWa⟩ : ∃ Wa, (W.alloc (.cells #[.int .i64 k1, .int .i64 d1] 91)).alloc (.cells #[.int .i64 k2, .int .i64 d2] 91) = Wa := ⟨_, rfl⟩
  have kb : Blk Wa (W.heap.size + 1) #[.int .i64 k2, .int .i64 d2] 91 := by
    rw [← hWa]
    have := Blk.new (W.alloc (.cells #[.int .i64 k1, .int .i64 d1] 91)) #[.int .i64 k2, .int .i64 d2] 91
    simpa using this
  have ka : Blk Wa W.heap.size #[.int .i64 k1, .int .i64 d1] 91 := by
    rw [← hWa]
    exact (Blk.new W #[.int .i64 k1, .int .i64 d1] 91).grown (World.grownBy_alloc _ _ none) (by simp)
  have HWA := Lib.hid hWa
  have a0 : Wa.cell? ⟨W.heap.size, 0, none⟩ = some (.int .i64 k1) := ka.cell 0 rfl
  have a1 : Wa.cell? ⟨W.heap.size, 1, none⟩ = some (.int .i64 d1) := ka.cell 1 rfl
  have b0 : Wa.cell? ⟨W.heap.size + 1, 0, none⟩ = some (.int .i64 k2) := kb.cell 0 rfl
  have b1 : Wa.cell? ⟨W.heap.size + 1, 1, none⟩ = some (.int .i64 d2) := kb.cell 1 rfl
  rw [hWa]
  clear hWa
  have HA := Lib.hid (show Wa.drew.cell? ⟨W.heap.size, 0, none⟩ = some (.int .i64 k1) ∧ Wa.drew.cell? ⟨W.heap.size, 1, none⟩ = some (.int .i64 d1) ∧ Wa.drew.cell? ⟨W.heap.size + 1, 0, none⟩ = some (.int .i64 k2) ∧ Wa.drew.cell? ⟨W.heap.size + 1, 1, none⟩ = some (.int .i64 d2) from ⟨a0, a1, b0, b1⟩)
  have HB := Lib.hid (show ∀ o, (Wa.alloc o).drew.cell? ⟨W.heap.size, 0, none⟩ = some (.int .i64 k1) ∧ (Wa.alloc o).drew.cell? ⟨W.heap.size, 1, none⟩ = some (.int .i64 d1) ∧ (Wa.alloc o).drew.cell? ⟨W.heap.size + 1, 0, none⟩ = some (.int .i64 k2) ∧ (Wa.alloc o).drew.cell? ⟨W.heap.size + 1, 1, none⟩ = some (.int .i64 d2) from fun o => by
    have B := ((RowKit.Below.refl Wa.heap.size Wa).alloc (Nat.le_refl _) o).drew
    exact ⟨(ka.after B).cell 0 rfl, (ka.after B).cell 1 rfl, (kb.after B).cell 0 rfl, (kb.after B).cell 1 rfl⟩)
  clear ka kb
  have HO := Lib.hid (or_ok (F k1 k2) (F d1 d2) Wa.heap.size 2 (Wa.alloc (.cells #[.int .i64 (F k1 k2), .int .i64 (F d1 d2)] 3)).drew ((Blk.new Wa #[.int .i64 (F k1 k2), .int .i64 (F d1 d2)] 3).cell 0 rfl) ((Blk.new Wa #[.int .i64 (F k1 k2), .int .i64 (F d1 d2)] 3).cell 1 rfl))
  rw [HVV.out] at HO
  go_region_held3 (fun w' => w'.cell? ⟨W.heap.size, 0, none⟩ = some (.int .i64 k1) ∧ w'.cell? ⟨W.heap.size, 1, none⟩ = some (.int .i64 d1) ∧ w'.cell? ⟨W.heap.size + 1, 0, none⟩ = some (.int .i64 k2) ∧ w'.cell? ⟨W.heap.size + 1, 1, none⟩ = some (.int .i64 d2))
    (first | with_reducible exact HA.out | with_reducible exact HB.out _)
    (first
      | (go_at_call 65; refine (H1.out _ _ _).mono ?_; rintro e w1 ⟨rfl, rfl⟩)
      | (go_at_call 64; with_reducible refine HO.out.mono ?_; rintro e w1 ⟨rfl, rfl⟩))
  go_wp2_with fail
  go_ret
  exact ⟨rfl, 1, _, by rw [← HWA.out, alloc_eq_grow, alloc_eq_grow, alloc_eq_grow, grow_grow, grow_grow]; rfl⟩

end Go.Proofs.YtmjgcenhgpkhiaaDoor
