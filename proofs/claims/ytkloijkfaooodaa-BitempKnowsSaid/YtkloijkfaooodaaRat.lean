/- Package ratio: abs, common, Check. -/
import Derived.Test.YtkloijkfaooodaaRows
import Derived.Test.YtkloijkfaooodaaGen
import Derived.Test.YtkloijkfaooodaaBits
import Derived.LoopTactic
import Derived.Deep.LoopGhost
import Derived.Deep.RegionHeld3
import Derived.Deep.QuietTactic
import Derived.Outline
import Derived.WalkSpells
import Derived.PlainAid
import Derived.BigQuiet
namespace Go.Proofs.Ytkloijkfaooodaa
open Go.RowKit
set_option linter.unusedVariables false
set_option linter.unusedSimpArgs false

set_option maxHeartbeats 1000000 in
set_option maxRecDepth 100000 in
theorem abs_ok (n : Int) (h1 : -9223372036854775808 ≤ n) (h2 : n ≤ 9223372036854775807) (w : World) : Calls Try.prog 73 #[.int .i64 n] w fun e w' => e = .returned (.int .u64 (n.natAbs : Int)) ∧ w' = w := by
  by_cases h : n < 0
  · have e1 : IntKind.u64.wrap n = n + 18446744073709551616 := by rw [IntKind.wrap_u64]; omega
    have e2 : IntKind.u64.wrap (-(n + 18446744073709551616)) = (n.natAbs : Int) := by rw [IntKind.wrap_u64]; omega
    go_enter Try.func73, Try.ntmps73
    go_wp2_with fail
    go_ret
    exact ⟨rfl, rfl⟩
  · have e1 : IntKind.u64.wrap n = n := IntWalk.u64_in _ (by omega)
    have e2 : Hid (n = (n.natAbs : Int)) := by show n = _; omega
    go_enter Try.func73, Try.ntmps73
    go_wp2_with fail
    go_ret
    exact ⟨by rw [← e2.out]; rfl, rfl⟩

set_option maxHeartbeats 1000000 in
set_option maxRecDepth 100000 in
theorem common_ok (a b : Nat) (ha : a ≤ 9223372036854775808) (hb : b ≤ 9223372036854775808) (w : World) : Calls Try.prog 72 #[.int .u64 a, .int .u64 b] w fun e w' => e = .returned (.int .u64 (Nat.gcd a b : Int)) ∧ ∃ n, w' = w.drewN n := by
  have HA := Lib.hid ha
  have HB := Lib.hid hb
  clear ha hb
  obtain ⟨G, hG⟩ : ∃ G, Nat.gcd a b = G := ⟨_, rfl⟩
  rw [hG]
  have HG := Lib.hid hG
  clear hG
  go_enter Try.func72, Try.ntmps72
  go_wp2_with fail
  go_loopw [0, 1] (fun x y wr => ∃ p q : Nat, x = .int .u64 (p : Int) ∧ y = .int .u64 (q : Int) ∧ Hid (p ≤ 9223372036854775808 ∧ q ≤ 9223372036854775808) ∧ Hid (Nat.gcd p q = G) ∧ ∃ n, wr = w.drewN n) (fun _ y _ => (intOf y).toNat)
  case atStart => exact ⟨a, b, rfl, rfl, ⟨HA.out, HB.out⟩, HG, 0, rfl⟩
  case round =>
    obtain ⟨p, q, rfl, rfl, HL, HP, dn, rfl⟩ := hrel
    by_cases hq : q = 0
    · subst hq
      have hz : ((0 : Nat) : Int) = 0 := rfl
      go_wp2_with fail
      go_ret
      have := HP.out
      rw [Nat.gcd_zero_right] at this
      exact ⟨by rw [this]; rfl, dn, rfl⟩
    · have hq1 : (q : Int) ≠ 0 := by omega
      have hq0 : ((q : Int) == 0) = false := by simp [hq]
      have hw : IntKind.u64.wrap ((p : Int).tmod (q : Int)) = ((p % q : Nat) : Int) := by
        have := HL.out
        have hlt := Nat.mod_lt p (show 0 < q by omega)
        rw [IntKind.wrap_u64, Int.tmod_eq_emod_of_nonneg (by omega)]
        omega
      have HQ := Lib.hid hq
      clear hq
      go_wp2_with (go_quiet (fail))
      refine ⟨⟨q, p % q, rfl, ?_, ⟨HL.out.2, by have := Nat.mod_lt p (show 0 < q by have := HQ.out; omega); have := HL.out; omega⟩, by rw [Nat.gcd_comm, ← Nat.gcd_rec q p, Nat.gcd_comm]; exact HP.out, _, World.drewN_drewN _ _ _⟩, ?_⟩
      · rw [Int.natCast_emod]
      · show ((p : Int) % (q : Int)).toNat < (q : Int).toNat
        rw [← Int.natCast_emod]
        have := Nat.mod_lt p (show 0 < q by have := HQ.out; omega)
        omega

/-- What is wrong with a ratio. -/
def ratV (num den : Int) : Int := if den = 0 then 12 else if den < 0 ∨ num = -9223372036854775808 ∨ Nat.gcd num.natAbs den.natAbs ≠ 1 then 13 else 0

set_option maxHeartbeats 1000000 in
set_option maxRecDepth 100000 in
theorem ratchk_ok (num den : Int) (h1 : -9223372036854775808 ≤ num) (h2 : num ≤ 9223372036854775807) (h3 : -9223372036854775808 ≤ den) (h4 : den ≤ 9223372036854775807) (w : World) :
    Calls Try.prog 61 #[.agg #[.int .i64 num, .int .i64 den]] w fun e w' => e = .returned (.int .i64 (ratV num den)) ∧ Below w.heap.size w w' := by
  obtain ⟨wa, hwa⟩ : ∃ wa, w.alloc (.cells #[.int .i64 num, .int .i64 den] 24) = wa := ⟨_, rfl⟩
  have ba : Below w.heap.size w wa := by rw [← hwa]; exact (Below.refl _ _).alloc (Nat.le_refl _) _
  have k0 : Blk wa w.heap.size #[.int .i64 num, .int .i64 den] 24 := by rw [← hwa]; exact Blk.new _ _ _
  have c0 : wa.cell? ⟨w.heap.size, 0, none⟩ = some (.int .i64 num) := k0.cell 0 rfl
  have c1 : wa.cell? ⟨w.heap.size, 1, none⟩ = some (.int .i64 den) := k0.cell 1 rfl
  clear k0
  obtain ⟨V, hV⟩ : ∃ V, ratV num den = V := ⟨_, rfl⟩
  rw [hV]
  have HV := Lib.hid hV
  clear hV
  have HA := Lib.hid (abs_ok num h1 h2)
  have HB := Lib.hid (abs_ok den h3 h4)
  have HC := Lib.hid (common_ok num.natAbs den.natAbs (by omega) (by omega))
  clear h1 h2 h3 h4
  by_cases hd : den = 0
  · subst hd
    go_enter Try.func61, Try.ntmps61
    go_wp2_with fail
    go_ret
    exact ⟨by rw [← HV.out]; rfl, ba⟩
  · have hd0 : (den == 0) = false := by simp [hd]
    have HD := Lib.hid hd
    clear hd
    by_cases hn : den < 0
    · have hnb : decide (den < 0) = true := by simp [hn]
      have HR : Hid (V = 13) := by
        have := HV.out
        unfold ratV at this
        rw [if_neg HD.out, if_pos (Or.inl hn)] at this
        exact this.symm
      clear hn
      go_enter Try.func61, Try.ntmps61
      go_wp2_with (go_quiet (fail))
      go_ret
      exact ⟨by rw [HR.out]; rfl, below_drewN ba _⟩
    · have hnb : decide (den < 0) = false := by simp [hn]
      by_cases hl : num = -9223372036854775808
      · subst hl
        have HR : Hid (V = 13) := by
          have := HV.out
          unfold ratV at this
          rw [if_neg HD.out, if_pos (Or.inr (Or.inl rfl))] at this
          exact this.symm
        go_enter Try.func61, Try.ntmps61
        go_wp2_with (go_quiet (fail))
        go_ret
        exact ⟨by rw [HR.out]; rfl, below_drewN ba _⟩
      · have hlb : (num == -9223372036854775808) = false := by simp [hl]
        obtain ⟨g, hg⟩ : ∃ g, Nat.gcd num.natAbs den.natAbs = g := ⟨_, rfl⟩
        have HR : Hid (V = if g = 1 then 0 else 13) := by
          have := HV.out
          unfold ratV at this
          rw [if_neg HD.out] at this
          rw [← this]
          by_cases h1 : g = 1
          · rw [if_pos h1]
            exact if_neg (by rw [hg]; omega)
          · rw [if_neg h1]
            exact if_pos (Or.inr (Or.inr (by rw [hg]; exact h1)))
        rw [hg] at HC
        clear hg HV
        have hn' : ¬ den < 0 := hn
        clear hl hn
        by_cases h1 : g = 1
        · subst h1
          rw [if_pos rfl] at HR
          have h1b : decide (((1 : Nat) : Int) = 1) = true := rfl
          go_enter Try.func61, Try.ntmps61
          go_wp2_with (go_quiet (first | with_reducible exact Calls.quiet_of_same (HA.out _) | with_reducible exact Calls.quiet_of_same (HB.out _) | with_reducible exact Calls.quiet_of (HC.out _)))
          go_ret
          exact ⟨by rw [HR.out]; rfl, below_drewN ba _⟩
        · rw [if_neg h1] at HR
          have h1b : ((g : Int) == 1) = false := by simp; omega
          go_enter Try.func61, Try.ntmps61
          go_wp2_with (go_quiet (first | with_reducible exact Calls.quiet_of_same (HA.out _) | with_reducible exact Calls.quiet_of_same (HB.out _) | with_reducible exact Calls.quiet_of (HC.out _)))
          go_ret
          exact ⟨by rw [HR.out]; rfl, below_drewN ba _⟩

end Go.Proofs.Ytkloijkfaooodaa
