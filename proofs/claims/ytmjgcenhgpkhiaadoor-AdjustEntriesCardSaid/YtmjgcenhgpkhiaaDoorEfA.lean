/- chattellaw14.Few. -/
import Derived.Test.YtmjgcenhgpkhiaaDoorEntI
namespace Go.Proofs.YtmjgcenhgpkhiaaDoor
open Go.RowKit
set_option linter.unusedVariables false
set_option linter.unusedSimpArgs false

theorem few_ok (s : Six) (a : Option Addr) (cap n : Nat) (w : World) (hn : n ≤ 9223372036854775807) : Calls Tryd.prog 6 #[entV s a n cap] w fun e w' => e = .returned (.bool (decide (n ≤ 20))) ∧ Below w.heap.size w w' := by
  have hbx := Blk.new w (entCs s a n cap) 26
  have b6 : (w.alloc (.cells (entCs s a n cap) 26)).cell? ⟨w.heap.size, 6, none⟩ = some (.slice a n cap) := hbx.cell 6 rfl
  unfold entCs at b6
  clear hbx
  unfold entV
  go_enter Tryd.func6, Tryd.ntmps6
  go_wp2_with fail
  go_ret
  exact ⟨ret_bool (by rw [Bool.eq_iff_iff]; simp; try omega), (Below.refl _ _).alloc (Nat.le_refl _) _⟩

end Go.Proofs.YtmjgcenhgpkhiaaDoor
