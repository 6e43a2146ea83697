/- The reference's numbers as bits (package chattelref01): at, plus, minus, trim, order: what they answer at bits of natural numbers. -/
import Derived.Test.YtncodoaphfeefaaRows
import Derived.Test.YtncodoaphfeefaaInts
import Derived.Test.YtncodoaphfeefaaBits
import Derived.LoopTactic
import Derived.Deep.LoopGhost
import Derived.Deep.RegionHeld3
import Derived.Deep.QuietTactic
import Derived.BigQuiet
import Derived.Outline
import Derived.WalkSpells
namespace Go.Proofs.Ytncodoaphfeefaa
open Go.RowKit
set_option linter.unusedVariables false
set_option linter.unusedSimpArgs false


theorem infoInt : (Try.prog.info? 3).map (fun i => (i.zero, i.size, i.bytes)) = some (some (.int .i64 0), 1, 8) := by kernel_rfl

/-- A bit, as a cell holds it. -/
def bitV (n i : Nat) : Value := .int .i64 (bitAt n i)
/-- What a call that answers a number's bits ends with. -/
def BitsEnd (n : Nat) (w : World) (e : Ending) (w' : World) : Prop :=
  ∃ c cap, e = .returned (.slice c (blen n) cap) ∧ blen n ≤ cap ∧ cap ≤ maxLen ∧ RowAt w' c (blen n) (bitV n) ∧ Below w.heap.size w w' ∧ ∀ x, c = some x → w.heap.size ≤ x.block

theorem at_bits (a : Option Addr) (cap n : Nat) (k : Nat) (w : World) (hr : RowAt w a (blen n) (bitV n)) (hb : blen n ≤ 100000) :
    Calls Try.prog 32 #[.slice a (blen n) cap, .int .i64 k] w fun e w' => e = .returned (.int .i64 (bitAt n k)) ∧ w = w' := by
  by_cases h : k < blen n
  · obtain ⟨b, o, rfl, hc⟩ := hr (by omega)
    have hck := hc k h
    unfold bitV at hck
    clear hc
    go_enter Try.func32, Try.ntmps32
    go_wp2
    go_ret
    exact ⟨rfl, rfl⟩
  · have e := bitAt_high (n := n) (i := k) (by omega)
    rw [e]
    clear e
    go_enter Try.func32, Try.ntmps32
    go_wp2
    go_ret
    exact ⟨rfl, rfl⟩

/-- The first k bits. -/
def someBits (n k : Nat) : List Value := (List.range k).map (bitV n)
theorem someBits_succ (n k : Nat) : someBits n (k + 1) = someBits n k ++ [.int .i64 (bitAt n k)] := by simp [someBits, List.range_succ, bitV]
theorem someBits_len (n k : Nat) : (someBits n k).length = k := by simp [someBits]
theorem someBits_get (n k i : Nat) (h : i < k) : (someBits n k).getD i undef = bitV n i := by
  unfold someBits
  rw [List.getD_eq_getElem?_getD, List.getElem?_map, List.getElem?_range h]
  rfl
theorem owned_bits {w : World} {base n : Nat} {v : Value} (h : w.ownsRow base 3 1 v (blen n) (someBits n (blen n))) : ∃ c cap, v = .slice c (blen n) cap ∧ blen n ≤ cap ∧ cap ≤ maxLen ∧ RowAt w c (blen n) (bitV n) ∧ ∀ x, c = some x → base ≤ x.block := by
  obtain ⟨a, cap, rfl, _, h1, h2, h3, h4⟩ := owned_parts h
  rw [Nat.mul_one] at h4
  exact ⟨a, cap, rfl, h1, h2, h4.congr fun i hi => someBits_get n _ i hi, fun x e => (h3 x e).1⟩

theorem trim_bits (a : Option Addr) (L cap n : Nat) (w : World) (hr : RowAt w a L (bitV n)) (hn : blen n ≤ L) (hL : L ≤ 100000) (hc : L ≤ cap) (hm : cap ≤ maxLen) (ha : a = none → L = 0 ∧ cap = 0) :
    Calls Try.prog 33 #[.slice a L cap] w fun e w' => e = .returned (.slice a (blen n) cap) ∧ w = w' := by
  unfold maxLen at hm
  go_enter Try.func33, Try.ntmps33
  go_wp2_with fail
  go_loop [3] (fun i => ∃ k : Nat, k ≤ L ∧ blen n ≤ k ∧ i = .int .i64 k) (fun i => (intOf i).toNat)
  case atStart => exact ⟨L, Nat.le_refl _, hn, rfl⟩
  case round =>
    obtain ⟨k, hk, hnk, rfl⟩ := hrel
    by_cases h1 : blen n < k
    · obtain ⟨b, o, rfl, hcell⟩ := hr (by omega)
      have hck := hcell (k - 1) (by omega)
      unfold bitV at hck
      rw [bitAt_high (by omega)] at hck
      clear hcell ha
      have h2 : 0 < k := by omega
      have i0 : (0 : Int) ≤ (k : Int) - 1 := by omega
      have i1 : (k : Int) - 1 < (L : Int) := by omega
      have i2 : ((k : Int) - 1).toNat = k - 1 := by omega
      go_wp2_with fail
      go_round
      case rel => exact ⟨k - 1, by omega, by omega, by congr 1; omega⟩
      case measure => simp [intOf]; omega
    · obtain rfl : k = blen n := by omega
      have j1 : ((blen n : Nat) : Int) ≤ (cap : Int) := by omega
      have j0 : (0 : Int) ≤ ((blen n : Nat) : Int) := by omega
      by_cases h2 : blen n = 0
      · have h3 : ((blen n : Nat) : Int) ≤ 0 := by omega
        clear h1
        cases a with
        | none =>
          obtain ⟨rfl, rfl⟩ := ha rfl
          have H2 := Lib.hid h2
          clear hnk hr hn ha h2
          go_wp2_with fail
          go_ret
          exact ⟨by rw [H2.out]; rfl, rfl⟩
        | some x =>
          clear h2 ha
          go_wp2_with fail
          go_ret
          exact ⟨rfl, rfl⟩
      · obtain ⟨b, o, rfl, hcell⟩ := hr (by omega)
        have hck := hcell (blen n - 1) (by omega)
        unfold bitV at hck
        rw [bitAt_top (by have := @blen_eq_zero n; omega)] at hck
        clear hcell ha
        have h3 : 0 < blen n := by omega
        have i0 : (0 : Int) ≤ ((blen n : Nat) : Int) - 1 := by omega
        have i1 : ((blen n : Nat) : Int) - 1 < (L : Int) := by omega
        have i2 : (((blen n : Nat) : Int) - 1).toNat = blen n - 1 := by omega
        clear h1 h2
        go_wp2_with fail
        go_ret
        exact ⟨rfl, rfl⟩

set_option maxHeartbeats 1000000 in
theorem minus_bits (a a' : Option Addr) (cap cap' x y : Nat) (w : World) (hx : RowAt w a (blen x) (bitV x)) (hy : RowAt w a' (blen y) (bitV y)) (hxy : y ≤ x) (bx : blen x ≤ 10000) :
    Calls Try.prog 40 #[.slice a (blen x) cap, .slice a' (blen y) cap'] w (BitsEnd (x - y) w) := by
  obtain ⟨i0, hi, hz0, hz1, hz2⟩ := info_parts infoInt
  have by' : blen y ≤ blen x := blen_mono hxy
  go_enter Try.func40, Try.ntmps40
  go_wp2_with fail
  go_loopw [5, 6, 7] (fun v c i wr => ∃ k : Nat, k ≤ blen x ∧ i = .int .i64 k ∧ c = .int .i64 (borrow x y k) ∧ wr.ownsRow w.heap.size 3 1 v k (someBits (x - y) k) ∧ Below w.heap.size w wr) (fun _ _ i _ => blen x - (intOf i).toNat)
  case atStart => exact ⟨0, by omega, rfl, by rw [borrow_zero]; rfl, World.ownsRow_nil _ _ _ _, Below.refl _ _⟩
  case round =>
    obtain ⟨k, hk, rfl, rfl, hown, hbl⟩ := hrel
    have zb := hbl.size
    by_cases hlt : k < blen x
    · have hxr := hx.after hbl
      have hyr := (hy.after hbl).after (w' := wr.drew) ((Below.refl _ _).drew)
      obtain ⟨b, o, rfl, hcell⟩ := hxr (by omega)
      have hck := hcell k hlt
      unfold bitV at hck
      have rx := bitAt_range x k
      have ry := bitAt_range y k
      obtain ⟨rx1, rx2⟩ := rx
      obtain ⟨ry1, ry2⟩ := ry
      have rb : borrow x y k ≤ 1 := by unfold borrow; split <;> omega
      have q0 : (0 : Int) ≤ (k : Int) := by omega
      have q1 : (k : Int) < ((blen x : Nat) : Int) := by omega
      have w1 : IntKind.i64.wrap (bitAt x k - bitAt y k) = bitAt x k - bitAt y k := IntWalk.i64_in _ (by omega)
      have w2 : IntKind.i64.wrap (bitAt x k - bitAt y k - (borrow x y k : Int)) = bitAt x k - bitAt y k - (borrow x y k : Int) := IntWalk.i64_in _ (by omega)
      clear hcell hx hy
      go_wp2_with fail
      go_region_held3 (fun w' => w'.cell? ⟨b, o + k, none⟩ = some (.int .i64 (bitAt x k))) (first | exact hck) (first | (go_at_call 32; refine (at_bits a' cap' y k _ hyr (by omega)).mono ?_; rintro e w1 ⟨rfl, rfl⟩))
      have hown2 : (wr.drew).ownsRow w.heap.size 3 1 u5 k (someBits (x - y) k) := hown.kept (row := none) (below_row ((Below.refl _ _).drew) none) (Classical.em _)
      have hbl2 : Below w.heap.size w wr.drew := hbl.drew
      obtain ⟨wz, hwz⟩ : ∃ wz, wr.drew = wz := ⟨_, rfl⟩
      rw [hwz] at hown2 hbl2 ⊢
      clear w1 w2 hown hck hwz hyr
      have zz := hbl2.size
      by_cases hneg : bitAt x k - bitAt y k - (borrow x y k : Int) < 0
      · obtain ⟨e1, e2⟩ := (minus_bit x y k hxy).1 hneg
        have E1 := Lib.hid e1
        have E2 := Lib.hid e2
        clear e1 e2
        go_wp2_with (at_builtin; refine wpList_append_own _ rfl _ _ 27 rfl w.heap.size 3 i0 (.int .i64 0) 1 8 Try.underlying27 hi hz0 hz1 hz2 rfl (by decide) _ _ _ rfl (hown2.alloc _) ⟨wz.heap.size, 0, none⟩ 1 1 [.int .i64 (bitAt x k - bitAt y k - (borrow x y k : Int) + 2)] rfl rfl (news_one _ _ _) (by simp [Value.oneCell']) (by unfold maxLen; omega) (by omega) (by simp; omega) ?_; intro v' w1 hown' hgrow _)
        have hb2 : Below w.heap.size w w1 := (hbl2.alloc zz _).grown hgrow (by simp; omega) (fun q e => (hown2.lt q e).1)
        rw [E1.out, ← someBits_succ] at hown'
        go_wp2_with fail
        go_roundw
        case rel => exact ⟨k + 1, by omega, by go_num, by rw [E2.out], hown', hb2⟩
        case measure => simp [intOf]; omega
      · obtain ⟨e1, e2⟩ := (minus_bit x y k hxy).2 hneg
        have E1 := Lib.hid e1
        have E2 := Lib.hid e2
        clear e1 e2
        go_wp2_with (at_builtin; refine wpList_append_own _ rfl _ _ 27 rfl w.heap.size 3 i0 (.int .i64 0) 1 8 Try.underlying27 hi hz0 hz1 hz2 rfl (by decide) _ _ _ rfl (hown2.alloc _) ⟨wz.heap.size, 0, none⟩ 1 1 [.int .i64 (bitAt x k - bitAt y k - (borrow x y k : Int))] rfl rfl (news_one _ _ _) (by simp [Value.oneCell']) (by unfold maxLen; omega) (by omega) (by simp; omega) ?_; intro v' w1 hown' hgrow _)
        have hb2 : Below w.heap.size w w1 := (hbl2.alloc zz _).grown hgrow (by simp; omega) (fun q e => (hown2.lt q e).1)
        rw [E1.out, ← someBits_succ] at hown'
        go_wp2_with fail
        go_roundw
        case rel => exact ⟨k + 1, by omega, by go_num, by rw [E2.out], hown', hb2⟩
        case measure => simp [intOf]; omega
    · obtain rfl : k = blen x := by omega
      obtain ⟨a1, cap1, rfl, g0, g1, g2, g3, g4⟩ := owned_parts hown
      have G3 := Lib.hid g3
      clear g3
      rw [Nat.mul_one] at g4
      have g5 : RowAt wr a1 (blen x) (bitV (x - y)) := g4.congr fun i hi => someBits_get _ _ i hi
      have hle : blen (x - y) ≤ blen x := blen_mono (by omega)
      clear hown hx hy g4
      go_wp2_with fail
      refine (trim_bits a1 (blen x) cap1 (x - y) _ g5 hle (by omega) g1 g2 g0).mono ?_
      rintro e w1 ⟨rfl, rfl⟩
      go_wp2_with fail
      go_ret
      exact ⟨a1, cap1, rfl, by omega, g2, g5.take hle, hbl, fun x e => (G3.out x e).1⟩

theorem order_bits (a a' : Option Addr) (cap cap' x y : Nat) (w : World) (hx : RowAt w a (blen x) (bitV x)) (hy : RowAt w a' (blen y) (bitV y)) (bx : blen x ≤ 10000) (by' : blen y ≤ 10000) :
    Calls Try.prog 30 #[.slice a (blen x) cap, .slice a' (blen y) cap'] w fun e w' => e = .returned (.int .i64 (ordN x y)) ∧ Below w.heap.size w w' := by
  rcases Nat.lt_trichotomy (blen x) (blen y) with h | h | h
  · have e : ordN x y = -1 := by unfold ordN; rw [if_pos (order_len h)]
    rw [e]
    clear e
    have h1 : (((blen x : Nat) : Int) != ((blen y : Nat) : Int)) = true := by rw [bne_iff_ne]; omega
    go_enter Try.func30, Try.ntmps30
    go_wp2
    go_ret
    exact ⟨rfl, Below.refl _ _⟩
  · generalize hL : blen x = L at *
    have hxL : x / 2 ^ L = y / 2 ^ L := by rw [Nat.div_eq_of_lt (blen_le.1 (by omega)), Nat.div_eq_of_lt (blen_le.1 (by omega))]
    rw [← h] at hy ⊢
    clear hL h by'
    go_enter Try.func30, Try.ntmps30
    go_wp2_with fail
    go_loopw [5] (fun i wr => ∃ k : Nat, k ≤ L ∧ i = .int .i64 ((k : Int) - 1) ∧ x / 2 ^ k = y / 2 ^ k ∧ Below w.heap.size w wr) (fun i _ => (intOf i + 1).toNat)
    case atStart => exact ⟨L, Nat.le_refl _, rfl, hxL, Below.refl _ _⟩
    case round =>
      obtain ⟨k, hk, rfl, hkk, hbl⟩ := hrel
      have HKK := Lib.hid hkk
      clear hkk hxL
      by_cases h0 : 0 < k
      · obtain ⟨b, o, rfl, hc⟩ := hx.after hbl (by omega)
        obtain ⟨b', o', rfl, hc'⟩ := hy.after hbl (by omega)
        have c1 := hc (k - 1) (by omega)
        have c2 := hc' (k - 1) (by omega)
        unfold bitV at c1 c2
        have HO := Lib.hid (order_bit (x := x) (y := y) (k := k - 1) (by rw [Nat.sub_add_cancel h0]; exact HKK.out))
        have rx := bitAt_range x (k - 1)
        have ry := bitAt_range y (k - 1)
        obtain ⟨rx1, rx2⟩ := rx
        obtain ⟨ry1, ry2⟩ := ry
        have i0 : (0 : Int) ≤ (k : Int) - 1 := by omega
        have i1 : (k : Int) - 1 < (L : Int) := by omega
        have i2 : ((k : Int) - 1).toNat = k - 1 := by omega
        have w1 : IntKind.i64.wrap (bitAt x (k - 1) - bitAt y (k - 1)) = bitAt x (k - 1) - bitAt y (k - 1) := IntWalk.i64_in _ (by omega)
        clear hc hc' hx hy
        by_cases hd : bitAt x (k - 1) = bitAt y (k - 1)
        · have d1 : (bitAt x (k - 1) != bitAt y (k - 1)) = false := by rw [bne_eq_false_iff_eq]; exact hd
          have HD := Lib.hid hd
          clear hd w1
          go_wp2_with fail
          go_quiet (fail)
          go_wp2_with fail
          go_roundw
          case rel => exact ⟨k - 1, by omega, by congr 1; omega, HO.out.1 HD.out, below_drewN hbl _⟩
          case measure => simp [intOf]; omega
        · have d1 : (bitAt x (k - 1) != bitAt y (k - 1)) = true := by rw [bne_iff_ne]; exact hd
          have HD := Lib.hid hd
          clear hd
          go_wp2_with fail
          go_quiet (fail)
          go_wp2_with fail
          go_quiet (fail)
          go_wp2_with fail
          go_ret
          exact ⟨ret_int (HO.out.2 HD.out), below_drewN (below_drewN hbl _) _⟩
      · obtain rfl : k = 0 := by omega
        have e : ordN x y = 0 := by
          have := HKK.out
          simp at this
          subst this
          unfold ordN
          rw [if_neg (by omega), if_neg (by omega)]
        have E := Lib.hid e
        clear e hx hy
        go_wp2_with fail
        go_ret
        exact ⟨ret_int E.out.symm, hbl⟩
  · have e : ordN x y = 1 := by unfold ordN; have := order_len h; rw [if_neg (by omega), if_pos (by omega)]
    rw [e]
    clear e
    have h1 : (((blen x : Nat) : Int) != ((blen y : Nat) : Int)) = true := by rw [bne_iff_ne]; omega
    go_enter Try.func30, Try.ntmps30
    go_wp2
    go_ret
    exact ⟨rfl, Below.refl _ _⟩

end Go.Proofs.Ytncodoaphfeefaa
