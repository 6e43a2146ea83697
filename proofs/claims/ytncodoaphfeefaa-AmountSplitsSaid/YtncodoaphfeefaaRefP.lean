/- The reference's numbers as bits: plus, of rows that may end in noughts; Neg. -/
import Derived.Test.YtncodoaphfeefaaRefBa
import Derived.LoopTactic
import Derived.Deep.LoopGhost
import Derived.Deep.RegionHeld3
import Derived.Deep.QuietTactic
import Derived.BigQuiet
import Derived.Outline
import Derived.WalkSpells
namespace Go.Proofs.Ytncodoaphfeefaa
open Go.RowKit
set_option linter.unusedVariables false
set_option linter.unusedSimpArgs false


/-- What a call that answers a number's bits ends with: noughts may stand behind them. -/
def WideEnd (n K : Nat) (w : World) (e : Ending) (w' : World) : Prop :=
  ∃ c L cap, e = .returned (.slice c L cap) ∧ blen n ≤ L ∧ L ≤ K ∧ L ≤ cap ∧ cap ≤ maxLen ∧ RowAt w' c L (bitV n) ∧ Below w.heap.size w w' ∧ (∀ x, c = some x → w.heap.size ≤ x.block) ∧ (c = none → L = 0 ∧ cap = 0)
theorem at_wide (a : Option Addr) (cap n L : Nat) (k : Nat) (w : World) (hr : RowAt w a L (bitV n)) (hn : blen n ≤ L) (hb : L ≤ 100000) :
    Calls Try.prog 32 #[.slice a L cap, .int .i64 k] w fun e w' => e = .returned (.int .i64 (bitAt n k)) ∧ w = w' := by
  by_cases h : k < L
  · obtain ⟨b, o, rfl, hc⟩ := hr (by omega)
    have hck := hc k h
    unfold bitV at hck
    clear hc
    go_enter Try.func32, Try.ntmps32
    go_wp2
    go_ret
    exact ⟨rfl, rfl⟩
  · have e := bitAt_high (n := n) (i := k) (by omega)
    rw [e]
    clear e
    go_enter Try.func32, Try.ntmps32
    go_wp2
    go_ret
    exact ⟨rfl, rfl⟩
theorem owned_wide {w : World} {base n L : Nat} {v : Value} (h : w.ownsRow base 3 1 v L (someBits n L)) : ∃ c cap, v = .slice c L cap ∧ L ≤ cap ∧ cap ≤ maxLen ∧ RowAt w c L (bitV n) ∧ (∀ x, c = some x → base ≤ x.block) ∧ (c = none → L = 0 ∧ cap = 0) := by
  obtain ⟨a, cap, rfl, h0, h1, h2, h3, h4⟩ := owned_parts h
  rw [Nat.mul_one] at h4
  exact ⟨a, cap, rfl, h1, h2, h4.congr fun i hi => someBits_get n _ i hi, fun x e => (h3 x e).1, h0⟩

set_option maxHeartbeats 1000000 in
theorem plus_wide (a a' : Option Addr) (cap cap' x y X Y K : Nat) (w : World) (hx : RowAt w a X (bitV x)) (hy : RowAt w a' Y (bitV y)) (lx : blen x ≤ X) (ly : blen y ≤ Y) (bx : X ≤ K) (by' : Y ≤ K) (hK : K ≤ 20000) :
    Calls Try.prog 31 #[.slice a X cap, .slice a' Y cap'] w (WideEnd (x + y) (K + 1) w) := by
  obtain ⟨i0, hi, hz0, hz1, hz2⟩ := info_parts infoInt
  go_enter Try.func31, Try.ntmps31
  go_wp2_with fail
  go_loopw [5, 6, 7] (fun v c i wr => ∃ k : Nat, k ≤ K + 1 ∧ (K < k → carry x y k = 0) ∧ i = .int .i64 k ∧ c = .int .i64 (carry x y k) ∧ wr.ownsRow w.heap.size 3 1 v k (someBits (x + y) k) ∧ Below w.heap.size w wr) (fun _ _ i _ => K + 2 - (intOf i).toNat)
  case atStart => exact ⟨0, by omega, by omega, rfl, by rw [carry_zero]; rfl, World.ownsRow_nil _ _ _ _, Below.refl _ _⟩
  case round =>
    obtain ⟨k, hk, hkc, rfl, rfl, hown, hbl⟩ := hrel
    have rx := bitAt_range x k
    have ry := bitAt_range y k
    obtain ⟨rx1, rx2⟩ := rx
    obtain ⟨ry1, ry2⟩ := ry
    have rc := carry_le x y k
    obtain ⟨pb1, pb2⟩ := plus_bit x y k
    have PB1 := Lib.hid pb1
    have PB2 := Lib.hid pb2
    clear pb1 pb2
    have zb := hbl.size
    by_cases hm : k < X ∨ k < Y ∨ 0 < carry x y k
    · have hnext : (K < k + 1 → carry x y (k + 1) = 0) ∧ k + 1 ≤ K + 1 := by
        rcases hm with hm | hm | hm
        · exact ⟨by omega, by omega⟩
        · exact ⟨by omega, by omega⟩
        · have : k ≤ K := by
            rcases Nat.lt_or_ge K k with h | h
            · have := hkc h; omega
            · exact h
          exact ⟨fun h => carry_high (by omega) (by omega), by omega⟩
      have HN1 := Lib.hid hnext.1
      clear hkc
      have hxr := hx.after hbl
      have hyr := hy.after hbl
      clear hx hy
      have hm' : k < X ∨ (X ≤ k ∧ k < Y) ∨ (X ≤ k ∧ Y ≤ k ∧ 0 < carry x y k) := by omega
      clear hm
      rcases hm' with h1 | ⟨h1, h2⟩ | ⟨h1, h2, h3⟩
      all_goals
        go_wp2_with fail
        refine (at_wide a cap x X k _ hxr lx (by omega)).mono ?_
        rintro e w1 ⟨rfl, rfl⟩
        go_wp2_with fail
        refine (at_wide a' cap' y Y k _ hyr ly (by omega)).mono ?_
        rintro e w1 ⟨rfl, rfl⟩
        go_wp2_with (at_builtin; refine wpList_append_own _ rfl _ _ 27 rfl w.heap.size 3 i0 (.int .i64 0) 1 8 Try.underlying27 hi hz0 hz1 hz2 rfl (by decide) _ _ _ rfl (hown.alloc _) ⟨wr.heap.size, 0, none⟩ 1 1 [.int .i64 ((bitAt x k + bitAt y k + (carry x y k : Int)) % 2)] rfl rfl (news_one _ _ _) (by simp [Value.oneCell']) (by unfold maxLen; omega) (by omega) (by simp; omega) ?_; intro v' w1 hown' hgrow _)
        have hb2 : Below w.heap.size w w1 := (hbl.alloc zb _).grown hgrow (by simp; omega) (fun q e => (hown.lt q e).1)
        rw [PB1.out, ← someBits_succ] at hown'
        go_wp2_with fail
        go_roundw
        case rel => exact ⟨k + 1, hnext.2, HN1.out, by go_num, by rw [PB2.out], hown', hb2⟩
        case measure => simp [intOf]; omega
    · have hm1 : X ≤ k := by omega
      have hm2 : Y ≤ k := by omega
      have hm3 : carry x y k = 0 := by omega
      have hend := plus_end (x := x) (y := y) (by omega) (by omega) hm3
      have HE := Lib.hid (blen_le.2 hend)
      have HM3 := Lib.hid hm3
      have hm4 : carry x y k ≤ 0 := by omega
      clear hm3 hkc hend
      obtain ⟨c, capc, rfl, g1, g2, g3, g4, g5⟩ := owned_wide hown
      have G4 := Lib.hid g4
      have G5 := Lib.hid g5
      clear g4 g5
      go_wp2_with fail
      go_ret
      exact ⟨c, k, capc, rfl, HE.out, hk, g1, g2, g3, hbl, G4.out, G5.out⟩

/-- A number, less than nought: it shares the bits. -/
theorem neg_big (z : Int) (s : Bool) (a : Option Addr) (l cap : Nat) (w : World) (h : BigAt w z s a l cap) :
    Calls Try.prog 25 #[.agg #[.bool s, .slice a l cap]] w fun e w' => e = .returned (.agg #[.bool (decide (-z < 0)), .slice a l cap]) ∧ Below w.heap.size w w' := by
  obtain ⟨hs, hl, hc, hm, hr⟩ := h
  obtain ⟨t, ht⟩ : ∃ t, decide (-z < 0) = t := ⟨_, rfl⟩
  rw [ht]
  have h2 : t = (!s && decide (0 < l)) := by
    rw [← ht, hs, hl, Bool.eq_iff_iff]
    have h0 : blen z.natAbs = 0 ↔ z = 0 := by rw [blen_eq_zero]; omega
    simp only [decide_eq_true_iff, Bool.and_eq_true, Bool.not_eq_true', decide_eq_false_iff_not]
    omega
  have H2 := Lib.hid h2
  clear h2 ht hs hl hr hc hm
  have go : Calls Try.prog 25 #[.agg #[.bool s, .slice a l cap]] w fun e w' => e = .returned (.agg #[.bool (!s && decide (0 < l)), .slice a l cap]) ∧ Below w.heap.size w w' := by
    clear H2
    have hb : Below w.heap.size w ((w.alloc (.cells #[.bool s, .slice a l cap] 29)).alloc (.cells #[.bool (!s && decide (0 < l)), .slice a l cap] 29)) := ((Below.refl _ _).alloc (Nat.le_refl _) _).alloc (by simp) _
    cases s
    · go_enter Try.func25, Try.ntmps25
      go_wp2_with fail
      refine bodyPost_ret (v := .agg #[.bool (decide (0 < l)), .slice a l cap]) ?_ rfl ?_
      · simp [results, Try.results25, go_sem]
      · exact ⟨by simp, hb⟩
    · go_enter Try.func25, Try.ntmps25
      go_wp2_with fail
      refine bodyPost_ret (v := .agg #[.bool false, .slice a l cap]) ?_ rfl ?_
      · simp [results, Try.results25, go_sem]
      · exact ⟨by simp, hb⟩
  rw [← H2.out] at go
  exact go

end Go.Proofs.Ytncodoaphfeefaa
