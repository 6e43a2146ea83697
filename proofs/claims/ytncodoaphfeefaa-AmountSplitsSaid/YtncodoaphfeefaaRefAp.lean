/- The reference's numbers as bits: plus. -/
import Derived.Test.YtncodoaphfeefaaRefA
import Derived.LoopTactic
import Derived.Deep.LoopGhost
import Derived.Deep.RegionHeld3
import Derived.Deep.QuietTactic
import Derived.BigQuiet
import Derived.Outline
import Derived.WalkSpells
namespace Go.Proofs.Ytncodoaphfeefaa
open Go.RowKit
set_option linter.unusedVariables false
set_option maxRecDepth 100000
set_option linter.unusedSimpArgs false


set_option maxHeartbeats 1000000 in
theorem plus_bits (a a' : Option Addr) (cap cap' x y : Nat) (w : World) (hx : RowAt w a (blen x) (bitV x)) (hy : RowAt w a' (blen y) (bitV y)) (bx : blen x ≤ 10000) (by' : blen y ≤ 10000) :
    Calls Try.prog 31 #[.slice a (blen x) cap, .slice a' (blen y) cap'] w (BitsEnd (x + y) w) := by
  obtain ⟨i0, hi, hz0, hz1, hz2⟩ := info_parts infoInt
  go_enter Try.func31, Try.ntmps31
  go_wp2_with fail
  go_loopw [5, 6, 7] (fun v c i wr => ∃ k : Nat, k ≤ 10001 ∧ (10000 < k → carry x y k = 0) ∧ i = .int .i64 k ∧ c = .int .i64 (carry x y k) ∧ wr.ownsRow w.heap.size 3 1 v k (someBits (x + y) k) ∧ Below w.heap.size w wr ∧ (k = 0 ∨ 2 ^ (k - 1) ≤ x + y)) (fun _ _ i _ => 10002 - (intOf i).toNat)
  case atStart => exact ⟨0, by omega, by omega, rfl, by rw [carry_zero]; rfl, World.ownsRow_nil _ _ _ _, Below.refl _ _, Or.inl rfl⟩
  case round =>
    obtain ⟨k, hk, hkc, rfl, rfl, hown, hbl, hlow⟩ := hrel
    have rx := bitAt_range x k
    have ry := bitAt_range y k
    obtain ⟨rx1, rx2⟩ := rx
    obtain ⟨ry1, ry2⟩ := ry
    have rc := carry_le x y k
    obtain ⟨pb1, pb2⟩ := plus_bit x y k
    have PB1 := Lib.hid pb1
    have PB2 := Lib.hid pb2
    clear pb1 pb2
    have zb := hbl.size
    by_cases hm : k < blen x ∨ k < blen y ∨ 0 < carry x y k
    · have hmore := plus_more hm
      have hnext : (10000 < k + 1 → carry x y (k + 1) = 0) ∧ k + 1 ≤ 10001 := by
        rcases hm with hm | hm | hm
        · exact ⟨by omega, by omega⟩
        · exact ⟨by omega, by omega⟩
        · have : k ≤ 10000 := by
            rcases Nat.lt_or_ge 10000 k with h | h
            · have := hkc h; omega
            · exact h
          exact ⟨fun h => carry_high (by omega) (by omega), by omega⟩
      have HN1 := Lib.hid hnext.1
      clear hkc
      have hxr := hx.after hbl
      have hyr := hy.after hbl
      clear hx hy
      have hm' : k < blen x ∨ (blen x ≤ k ∧ k < blen y) ∨ (blen x ≤ k ∧ blen y ≤ k ∧ 0 < carry x y k) := by omega
      clear hm
      rcases hm' with h1 | ⟨h1, h2⟩ | ⟨h1, h2, h3⟩
      all_goals
        go_wp2_with fail
        refine (at_bits a cap x k _ hxr (by omega)).mono ?_
        rintro e w1 ⟨rfl, rfl⟩
        go_wp2_with fail
        refine (at_bits a' cap' y k _ hyr (by omega)).mono ?_
        rintro e w1 ⟨rfl, rfl⟩
        go_wp2_with (at_builtin; refine wpList_append_own _ rfl _ _ 27 rfl w.heap.size 3 i0 (.int .i64 0) 1 8 Try.underlying27 hi hz0 hz1 hz2 rfl (by decide) _ _ _ rfl (hown.alloc _) ⟨wr.heap.size, 0, none⟩ 1 1 [.int .i64 ((bitAt x k + bitAt y k + (carry x y k : Int)) % 2)] rfl rfl (news_one _ _ _) (by simp [Value.oneCell']) (by unfold maxLen; omega) (by omega) (by simp; omega) ?_; intro v' w1 hown' hgrow _)
        have hb2 : Below w.heap.size w w1 := (hbl.alloc zb _).grown hgrow (by simp; omega) (fun q e => (hown.lt q e).1)
        rw [PB1.out, ← someBits_succ] at hown'
        go_wp2_with fail
        go_roundw
        case rel => exact ⟨k + 1, hnext.2, HN1.out, by go_num, by rw [PB2.out], hown', hb2, Or.inr (by simpa using hmore)⟩
        case measure => simp [intOf]; omega
    · have hm1 : blen x ≤ k := by omega
      have hm2 : blen y ≤ k := by omega
      have hm3 : carry x y k = 0 := by omega
      have hend := plus_end hm1 hm2 hm3
      have hk2 : blen (x + y) = k := blen_eq hend hlow
      subst hk2
      have HM3 := Lib.hid hm3
      have hm4 : carry x y (blen (x + y)) ≤ 0 := by omega
      clear hm3 hkc hlow hend
      obtain ⟨c, capc, rfl, g1, g2, g3, g4⟩ := owned_bits hown
      have G4 := Lib.hid g4
      clear g4
      go_wp2_with fail
      go_ret
      exact ⟨c, capc, rfl, g1, g2, g3, hbl, G4.out⟩

end Go.Proofs.Ytncodoaphfeefaa
