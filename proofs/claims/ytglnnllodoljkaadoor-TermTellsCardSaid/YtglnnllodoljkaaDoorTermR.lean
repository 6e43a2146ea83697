/- TermOps. -/
import Derived.Test.YtglnnllodoljkaaDoorTermQ
import Derived.Test.YtglnnllodoljkaaDoorTermG
namespace Go.Proofs.YtglnnllodoljkaaDoor
open Go.RowKit Go.Shelf
set_option linter.unusedVariables false
set_option linter.unusedSimpArgs false

theorem shp_kinds : ∀ k : Nat, k < 18 → (∀ j, j < mny (k : Int) → shp (k : Int) (j + 2) = 1 ∨ shp (k : Int) (j + 2) = 2) := by decide
theorem shp_below (op : Int) (j : Nat) (h : j < mny op) : shp op (j + 2) = 1 ∨ shp op (j + 2) = 2 := by
  by_cases ho : 0 ≤ op ∧ op < 18
  · obtain ⟨k, rfl⟩ : ∃ k : Nat, op = k := ⟨op.toNat, by omega⟩
    exact shp_kinds k (by omega) j h
  · have : mny op = 0 := by unfold mny; rw [shp_out ho]; rfl
    omega

theorem kid_letters : ∀ k : Nat, k < 18 → ∀ j, j < mny (k : Int) → (kidB (k : Int)).extract j (j + 1) = letV (shp (k : Int) (j + 2)) := by decide +kernel
theorem kid_letter (op : Int) (j : Nat) (h : j < mny op) : (kidB op).extract j (j + 1) = letV (shp op (j + 2)) := by
  by_cases ho : 0 ≤ op ∧ op < 18
  · obtain ⟨k, rfl⟩ : ∃ k : Nat, op = k := ⟨op.toNat, by omega⟩
    exact kid_letters k (by omega) j h
  · have : mny op = 0 := by unfold mny; rw [shp_out ho]; rfl
    omega

set_option maxHeartbeats 2000000 in
set_option maxRecDepth 100000 in
theorem open_TermOps (W : World) (hS : ShapesAt W) (op : Int) (hop : -9223372036854775808 ≤ op ∧ op ≤ 9223372036854775807) :
    Calls Tryd.prog 5 #[.int .i64 op] W fun e W' => e = .returned (.bool true) ∧ Below W.heap.size W W' := by
  have HS := Lib.hid hS
  have HK := Lib.hid (tkids_ok op W hS)
  have HRK := Lib.hid (fun w => refkids_ok op w)
  have HSo := Lib.hid (fun w hS => sort_ok op w hS)
  have HRS := Lib.hid (fun w => refsort_ok op w)
  have HSN := Lib.hid (fun w => sortnum_ok (shp op 0) (shp_three op) w)
  have HKS := Lib.hid (kidB_size op)
  have HKL := Lib.hid (kidsS_len op)
  have HKG := Lib.hid (kidsS_get op)
  have HB := Lib.hid (shp_below op)
  have hm4 : mny op ≤ 4 := (mny_int op).2
  obtain ⟨M, hM⟩ : ∃ M, mny op = M := ⟨_, rfl⟩
  obtain ⟨S0, hS0⟩ : ∃ M, shp op 0 = M := ⟨_, rfl⟩
  rw [hM] at HKS HKL HKG HB hm4
  rw [hS0] at HSo HRS HSN
  have HM := Lib.hid hM
  clear hS hM hS0 hop
  go_enter Tryd.func5, Tryd.ntmps5
  go_wp2_with fail
  with_reducible refine HK.out.mono ?_
  rintro e w1 ⟨v, rfl, hown, hb1⟩
  obtain ⟨a, cap, rfl, _, hbl, hia⟩ := ints_own hown rfl
  have HIA := Lib.hid hia
  rw [HKL.out]
  clear hown HK hbl hia
  go_wp2_with fail
  with_reducible refine (HRK.out _).mono ?_
  rintro e w2 ⟨rfl, hb2⟩
  have b2 : Hid (Below W.heap.size W w2) := hb1.trans (hb2.mono hb1.size)
  have i2 := Lib.hid (HIA.out.after hb2)
  obtain ⟨kb, hkb⟩ : ∃ kb, kidB op = kb := ⟨_, rfl⟩
  rw [hkb] at HKS ⊢
  have HKB := Lib.hid hkb
  have hks := HKS.out
  clear hb1 hb2 HIA hkb
  go_wp2_with fail
  with_reducible refine (HSo.out _ (HS.out.after b2.out)).mono ?_
  rintro e w3 ⟨rfl, hb3⟩
  have b3 : Hid (Below W.heap.size W w3) := b2.out.trans (hb3.mono b2.out.size)
  have i3 := Lib.hid (i2.out.after hb3)
  clear hb3
  go_wp2_with fail
  with_reducible refine (HRS.out _).mono ?_
  rintro e w4 ⟨rfl, rfl⟩
  go_wp2_with fail
  with_reducible refine (HSN.out _).mono ?_
  rintro e w5 ⟨rfl, rfl⟩
  go_wp2_with fail
  have HE := Lib.hid (kid_letter op)
  rw [HM.out, HKB.out] at HE
  have HA := Lib.hid (fun w hS => awake_ok w hS)
  have HS2 := HS
  clear HS HSo HRS HSN HRK
  go_loopw [5] (fun c wr => ∃ k : Nat, k ≤ M ∧ c = .int .i64 (k : Int) ∧ Below W.heap.size W wr ∧ Below w5.heap.size w5 wr) (fun c _ => M - (intOf c).toNat)
  case atStart => exact ⟨0, by omega, by simp, b3.out, Below.refl _ _⟩
  case round =>
    obtain ⟨k, hk, rfl, hbl, hbl4⟩ := hrel
    by_cases hlt : k < M
    · have hlt' : (k : Int) < (M : Int) := by omega
      obtain ⟨b, o, rfl, hc⟩ := (i3.out.after hbl4) (by rw [HKL.out]; omega)
      have cx : wr.cell? ⟨b, o + k, none⟩ = some (.int .i64 (shp op (k + 2))) := by
        have := hc k (by rw [HKL.out]; exact hlt) 0 _ rfl
        rwa [Nat.mul_one, Nat.add_zero, HKG.out k hlt] at this
      have hsl : ∀ w, (Instr.slice 9 (.string kb) (some (.int .i64 (k : Int))) (some (.int .i64 ((k : Int) + 1))) none).run Tryd.prog w = .ok (.string (letV (shp op (k + 2)))) w := fun w => by
        rw [← HE.out k hlt, run_slice_string_if w 9 kb .i64 .i64 (k : Int) ((k : Int) + 1) Tryd.underlying9, if_pos (by rw [hks]; omega), if_pos (by omega)]
        rfl
      have hSN := Lib.hid (fun w => sortnum_ok (shp op (k + 2)) (by have := HB.out k hlt; omega) w)
      obtain ⟨y, hy⟩ : ∃ y, shp op (k + 2) = y := ⟨_, rfl⟩
      simp only [hy] at hsl
      rw [hy] at cx hSN
      have hwk : IntKind.i64.wrap ((k : Int) + 1) = (k : Int) + 1 := IntWalk.i64_in _ (by omega)
      have HLT := Lib.hid hlt
      clear hc hy hlt
      go_wp2_with (go_quiet (first | with_reducible exact Calls.quiet_of_same (hSN.out _)))
      go_roundw
      case rel => exact ⟨k + 1, by have := HLT.out; omega, by go_num, below_drewN hbl _, below_drewN hbl4 _⟩
      case measure => have := HLT.out; simp [intOf]; omega
    · obtain rfl : k = M := by omega
      have HAA := Lib.hid (HA.out wr (HS2.out.after hbl))
      go_wp2_with fail
      with_reducible refine HAA.out.mono ?_
      rintro e w7 ⟨rfl, hb7⟩
      go_wp2_with fail
      go_ret
      exact ⟨rfl, hbl.trans (hb7.mono hbl.size)⟩

end Go.Proofs.YtglnnllodoljkaaDoor
