/- amount.Sum: the sum of numbers, or that it does not fit. -/
import Derived.Test.YtmjgcenhgpkhiaaDoorRefC
import Derived.Laws.Externs
namespace Go.Proofs.YtmjgcenhgpkhiaaDoor
open Go.RowKit
set_option linter.unusedVariables false
set_option maxRecDepth 100000
set_option linter.unusedSimpArgs false

theorem run_add (x y : Int) (hx : 0 ≤ x) (hy : 0 ≤ y) (w : World) :
    (callFunc 70 #[.int .u64 x, .int .u64 y, .int .u64 0]).run Tryd.prog w = .ok (.value (.tuple #[.int .u64 ((x + y) % 18446744073709551616), .int .u64 ((x + y) / 18446744073709551616)])) w := by
  rw [run_callFunc_extern Tryd.func70 (by kernel_rfl) (by kernel_rfl) (by kernel_rfl) (e := add64Entry) (by kernel_rfl), run_add64 x y 0 hx hy (by omega) (by omega)]
  simp [Result.andThen]

theorem u64_range (x : Int) : 0 ≤ IntKind.u64.wrap x := by rw [IntKind.wrap_u64]; omega

/-- What amount.Sum answers. -/
def sumA (z : Int) : Value := if fitsI z = true then .tuple #[.int .i64 z, .int .i64 0] else .tuple #[.int .i64 0, .int .i64 11]

set_option maxHeartbeats 1000000 in
theorem sum_amount (a : Option Addr) (cap : Nat) (xs : List Int) (w : World) (hx : RowAt w a xs.length (numV xs)) (hr : ∀ x ∈ xs, -9223372036854775808 ≤ x ∧ x ≤ 9223372036854775807) (hl : xs.length ≤ 1000000) :
    Calls Tryd.prog 61 #[.slice a xs.length cap] w fun e w' => e = .returned (sumA xs.sum) ∧ w = w' := by
  have hS := sum_abs xs hr
  have HS : Hid (-9223372036854775808000000 ≤ xs.sum ∧ xs.sum ≤ 9223372036854775808000000) := ⟨by omega, by omega⟩
  clear hS
  go_enter Tryd.func61, Tryd.ntmps61
  go_wp2_with fail
  go_loop [4, 5, 7, 8, 12] (fun h l _ _ i => ∃ k : Nat, k ≤ xs.length ∧ i = .int .i64 k ∧ h = .int .u64 (highS (xs.take k).sum) ∧ l = .int .u64 (lowS (xs.take k).sum)) (fun _ _ _ _ i => xs.length - (intOf i).toNat)
  case atStart => exact ⟨0, by omega, rfl, rfl, rfl⟩
  case round =>
    obtain ⟨k, hk, rfl, rfl, rfl⟩ := hrel
    by_cases hlt : k < xs.length
    · obtain ⟨xb, xo, rfl, hcell⟩ := hx (by omega)
      have hck := hcell k hlt
      unfold numV at hck
      have hxk := hr (xs.getD k 0) (by rw [List.getD_eq_getElem?_getD, List.getElem?_eq_getElem hlt]; simp)
      obtain ⟨y, hy⟩ : ∃ y, xs.getD k 0 = y := ⟨_, rfl⟩
      obtain ⟨z, hz⟩ : ∃ z, (xs.take k).sum = z := ⟨_, rfl⟩
      rw [hy] at hck hxk
      have HZ : Hid ((xs.take (k + 1)).sum = z + y) := by rw [sum_take_succ xs k hlt, hy, hz]; exact rfl
      rw [hz]
      obtain ⟨lo, hlo⟩ : ∃ lo, lowS z = lo := ⟨_, rfl⟩
      obtain ⟨hg, hhg⟩ : ∃ hg, highS z = hg := ⟨_, rfl⟩
      obtain ⟨L, hL⟩ : ∃ L, (lo + IntKind.u64.wrap y) % 18446744073709551616 = L := ⟨_, rfl⟩
      obtain ⟨C, hC⟩ : ∃ C, (lo + IntKind.u64.wrap y) / 18446744073709551616 = C := ⟨_, rfl⟩
      have hlr := lowS_range z
      rw [hlo] at hlr
      have hadd := run_add lo (IntKind.u64.wrap y) hlr.1 (u64_range y)
      have EL : Hid (L = lowS (z + y)) := by rw [← hL, ← hlo]; exact low_step z y
      have EH : Hid (IntKind.u64.wrap (hg + IntKind.u64.wrap (IntKind.u64.wrap (y / 9223372036854775808) + C)) = highS (z + y)) := by rw [← hC, ← hlo, ← hhg]; exact high_step z y hxk.1 hxk.2
      rw [hL, hC] at hadd
      rw [hlo, hhg]
      have i0 : (0 : Int) ≤ (k : Int) := by omega
      have i1 : (k : Int) < (xs.length : Int) := by omega
      clear hcell hx hy hz hlo hhg hL hC hlr hxk hr
      go_wp2_with fail
      go_round
      case rel => exact ⟨k + 1, by omega, by go_num, by rw [HZ.out, EH.out], by rw [HZ.out, EL.out]⟩
      case measure => simp [intOf]; omega
    · obtain rfl : k = xs.length := by omega
      rw [List.take_of_length_le (Nat.le_refl _)]
      have hf := sum_fits xs.sum HS.out.1 HS.out.2
      have HV := Lib.hid (sum_value xs.sum)
      obtain ⟨z, hz⟩ : ∃ z, xs.sum = z := ⟨_, rfl⟩
      rw [hz] at hf HV ⊢
      have HZ := Lib.hid hz
      obtain ⟨lo, hlo⟩ : ∃ lo, lowS z = lo := ⟨_, rfl⟩
      obtain ⟨hg, hhg⟩ : ∃ hg, highS z = hg := ⟨_, rfl⟩
      rw [hlo, hhg] at hf
      rw [hlo] at HV
      rw [hlo, hhg]
      clear hz hlo hhg hx
      cases hfz : fitsI z with
      | true =>
        rw [hfz] at hf
        have HF := Lib.hid hfz
        have HVV := Lib.hid (HV.out hfz)
        clear hfz
        go_wp2_with fail
        go_ret2
        refine ⟨?_, rfl⟩
        rw [HZ.out]
        unfold sumA
        rw [if_pos HF.out]
        exact congrArg (fun n => Ending.returned (.tuple #[.int .i64 n, .int .i64 0])) HVV.out
      | false =>
        rw [hfz] at hf
        have HF := Lib.hid hfz
        clear hfz
        go_wp2_with fail
        go_ret2
        refine ⟨?_, rfl⟩
        rw [HZ.out]
        unfold sumA
        rw [if_neg (by rw [HF.out]; simp)]
        rfl

theorem sum_fit (a : Option Addr) (cap n : Nat) (xs : List Int) (w : World) (hn : xs.length = n) (hx : RowAt w a n (numV xs)) (hr : ∀ x ∈ xs, -9223372036854775808 ≤ x ∧ x ≤ 9223372036854775807) (hl : n ≤ 1000000) (hf : fitsI xs.sum = true) :
    Calls Tryd.prog 61 #[.slice a n cap] w fun e w' => e = .returned (.tuple #[.int .i64 xs.sum, .int .i64 0]) ∧ w = w' := by
  subst hn
  have := sum_amount a cap xs w hx hr hl
  unfold sumA at this
  rwa [if_pos hf] at this
theorem sum_over (a : Option Addr) (cap n : Nat) (xs : List Int) (w : World) (hn : xs.length = n) (hx : RowAt w a n (numV xs)) (hr : ∀ x ∈ xs, -9223372036854775808 ≤ x ∧ x ≤ 9223372036854775807) (hl : n ≤ 1000000) (hf : fitsI xs.sum = false) :
    Calls Tryd.prog 61 #[.slice a n cap] w fun e w' => e = .returned (.tuple #[.int .i64 0, .int .i64 11]) ∧ w = w' := by
  subst hn
  have := sum_amount a cap xs w hx hr hl
  unfold sumA at this
  rwa [if_neg (by rw [hf]; simp)] at this

end Go.Proofs.YtmjgcenhgpkhiaaDoor
