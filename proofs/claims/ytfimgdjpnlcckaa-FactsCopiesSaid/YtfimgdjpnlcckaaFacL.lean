/- The law's Made and awake. -/
import Derived.Test.YtfimgdjpnlcckaaFacM
namespace Go.Proofs.Ytfimgdjpnlcckaa
open Go.RowKit
set_option linter.unusedVariables false
set_option linter.unusedSimpArgs false

theorem awake_wrong : wrongX ⟨3, 10, 5, 2⟩ = 0 := by decide +kernel
set_option maxRecDepth 100000 in
set_option maxHeartbeats 2000000 in
theorem awake_ok (w : World) : Calls Try.prog 10 #[] w fun e w' => e = .returned (.bool true) ∧ Below w.heap.size w w' := by
  go_enter Try.func10, Try.ntmps10
  go_wp2_with fail
  with_reducible refine (new_ok _).mono ?_
  rintro e w1 ⟨p, ba, bc, rfl, hF, hb, g1, g2, g3⟩
  have HF := Lib.hid hF
  have HB := Lib.hid hb
  clear hF hb
  go_wp2_with fail
  have HFX := Lib.hid (fix_ok p ba bc [] [] ⟨3, 10, 5, 2⟩ (by unfold I64; exact ⟨by decide, by decide⟩) (by unfold I64; exact ⟨by decide, by decide⟩) _ HF.out)
  dsimp only [encX] at HFX
  with_reducible refine HFX.out.mono ?_
  rintro e w2 ⟨rfl, hg2, hF2⟩
  rw [awake_wrong] at hF2 ⊢
  have HG2 := Lib.hid hg2
  have HF2 : Hid (FactsAt w2 p ba bc [⟨3, 10, 5, 2⟩] []) := hF2
  clear HFX hg2 hF2
  go_wp2_with fail
  with_reducible refine (fixing_ok p ba bc _ _ 3 10 _ HF2.out).mono ?_
  rintro e w3 ⟨rfl, hb3⟩
  have HK : Hid (knownX [⟨3, 10, 5, 2⟩] (3, 10) = ((5, 2), true)) := by show _ = _; decide +kernel
  rw [HK.out]
  have HF3 := Lib.hid (HF2.out.after hb3)
  have HB3 := Lib.hid hb3
  clear hb3
  dsimp only
  go_wp2_with fail
  have hb4 : Below w3.heap.size w3 (w3.alloc (.cells #[.int .i64 5, .int .i64 2] 29)) := (Below.refl _ _).alloc (Nat.le_refl _) _
  have k4 := Blk.new w3 #[.int .i64 5, .int .i64 2] 29
  with_reducible refine (fixing_ok p ba bc _ _ 3 11 _ (HF3.out.after hb4)).mono ?_
  rintro e w5 ⟨rfl, hb5⟩
  have HK5 : Hid (knownX [⟨3, 10, 5, 2⟩] (3, 11) = ((0, 0), false)) := by show _ = _; decide +kernel
  rw [HK5.out]
  have k5 := k4.after hb5
  have hb6 : Below w5.heap.size w5 (w5.alloc (.cells #[.int .i64 0, .int .i64 0] 29)) := (Below.refl _ _).alloc (Nat.le_refl _) _
  have k6 := k5.after hb6
  have c0 : (w5.alloc (.cells #[.int .i64 0, .int .i64 0] 29)).cell? ⟨w3.heap.size, 0, none⟩ = some (.int .i64 5) := k6.cell 0 rfl
  have c1 : (w5.alloc (.cells #[.int .i64 0, .int .i64 0] 29)).cell? ⟨w3.heap.size, 1, none⟩ = some (.int .i64 2) := k6.cell 1 rfl
  have heq := fun w => ratio_eql 5 2 5 2 w
  have HB : Hid (Below w.heap.size w (w5.alloc (.cells #[.int .i64 0, .int .i64 0] 29))) := by
    have b1 := HB.out
    have t2 : Below w.heap.size w1 w2 := by
      refine (Turn.of_grown (bs := [ba]) HG2.out (by simp)).below b1.size ?_
      simp only [List.mem_singleton, forall_eq]
      exact g2
    have b3 := b1.trans t2
    have b4 := b3.trans (HB3.out.mono b3.size)
    have b5 := b4.trans (hb4.mono b4.size)
    have b6 := b5.trans (hb5.mono b5.size)
    exact b6.trans (hb6.mono b6.size)
  clear hb4 hb5 hb6 k4 k5 k6
  dsimp only
  go_wp2_with fail
  go_ret
  exact ⟨rfl, HB.out⟩

end Go.Proofs.Ytfimgdjpnlcckaa
