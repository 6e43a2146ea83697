/- The document's answer for terms (chattelref05): Sort, Kids. -/
import Derived.Test.YtglnnllodoljkaaDoorTermB
namespace Go.Proofs.YtglnnllodoljkaaDoor
open Go.RowKit
set_option linter.unusedVariables false
set_option linter.unusedSimpArgs false

/-- A sort's letter. -/
def letV (s : Int) : ByteArray := if s = 1 then ⟨#[111]⟩ else if s = 2 then ⟨#[99]⟩ else ⟨#[]⟩

set_option maxHeartbeats 1000000 in
set_option maxRecDepth 100000 in
theorem refsort_ok (op : Int) (w : World) : Calls Tryd.prog 24 #[.int .i64 op] w fun e w' => e = .returned (.string (letV (shp op 0))) ∧ w' = w := by
  by_cases h1 : op < 1
  · have hv : Hid (shp op 0 = 0) := by
      by_cases h : 0 ≤ op ∧ op < 18
      · obtain rfl : op = 0 := by omega
        exact rfl
      · exact shp_out h 0
    go_enter Tryd.func24, Tryd.ntmps24
    go_wp2_with fail
    go_ret
    exact ⟨by rw [hv.out]; rfl, rfl⟩
  · by_cases h2 : 17 < op
    · have hv : Hid (shp op 0 = 0) := shp_out (by omega) 0
      go_enter Tryd.func24, Tryd.ntmps24
      go_wp2_with fail
      go_ret
      exact ⟨by rw [hv.out]; rfl, rfl⟩
    · obtain ⟨k, rfl⟩ : ∃ k : Nat, op = k := ⟨op.toNat, by omega⟩
      have hk : k < 18 := by omega
      by_cases h3 : (k : Int) < 9
      · have hv : Hid (shp k 0 = 1) := by
          rw [shp_in hk]
          have : ∀ k, k < 18 → 1 ≤ k → k < 9 → shN k 0 = 1 := by decide
          exact this k hk (by omega) (by omega)
        go_enter Tryd.func24, Tryd.ntmps24
        go_wp2_with fail
        go_ret
        exact ⟨by rw [hv.out]; rfl, rfl⟩
      · have hv : Hid (shp k 0 = 2) := by
          rw [shp_in hk]
          have : ∀ k, k < 18 → 9 ≤ k → shN k 0 = 2 := by decide
          exact this k hk (by omega)
        go_enter Tryd.func24, Tryd.ntmps24
        go_wp2_with fail
        go_ret
        exact ⟨by rw [hv.out]; rfl, rfl⟩

/-- The letters of what stands below an op. -/
def kidB (op : Int) : ByteArray := ⟨((List.range (mny op)).map fun j => if shp op (2 + j) = 1 then (111 : UInt8) else 99).toArray⟩

set_option maxHeartbeats 4000000 in
set_option maxRecDepth 100000 in
theorem refkids_ok (op : Int) (w : World) : Calls Tryd.prog 22 #[.int .i64 op] w fun e w' => e = .returned (.string (kidB op)) ∧ Below w.heap.size w w' := by
  by_cases h1 : op < 1
  · have hv : Hid (kidB op = ⟨#[]⟩) := by
      by_cases h : 0 ≤ op ∧ op < 18
      · obtain rfl : op = 0 := by omega
        exact rfl
      · unfold kidB mny
        rw [shp_out h]
        exact rfl
    go_enter Tryd.func22, Tryd.ntmps22
    go_wp2_with fail
    go_ret
    exact ⟨by rw [hv.out]; rfl, Below.refl _ _⟩
  · by_cases h2 : 17 < op
    · have hv : Hid (kidB op = ⟨#[]⟩) := by
        unfold kidB mny
        rw [shp_out (by omega)]
        exact rfl
      go_enter Tryd.func22, Tryd.ntmps22
      go_wp2_with fail
      go_ret
      exact ⟨by rw [hv.out]; rfl, Below.refl _ _⟩
    · have h3 : op = 1 ∨ op = 2 ∨ op = 3 ∨ op = 4 ∨ op = 5 ∨ op = 6 ∨ op = 7 ∨ op = 8 ∨ op = 9 ∨ op = 10 ∨ op = 11 ∨ op = 12 ∨ op = 13 ∨ op = 14 ∨ op = 15 ∨ op = 16 ∨ op = 17 := by omega
      clear h1 h2
      rcases h3 with rfl | rfl | rfl | rfl | rfl | rfl | rfl | rfl | rfl | rfl | rfl | rfl | rfl | rfl | rfl | rfl | rfl
      all_goals
        go_enter Tryd.func22, Tryd.ntmps22
        go_wp2_with fail
        go_ret
        exact ⟨rfl, (Below.refl _ _).alloc (Nat.le_refl _) _⟩

end Go.Proofs.YtglnnllodoljkaaDoor
