/- slices.swapRangeCmpFunc of cuts. -/
import Derived.Test.YtncodoaphfeefaaAmtD
import Derived.Test.YtncodoaphfeefaaStbA
import Derived.Shelf.SlSortCmp.KitK
import Derived.Sort.WalkB2
import Derived.Sort.WalkB12
import Derived.Deep.LoopGhost
namespace Go.Proofs.Ytncodoaphfeefaa
open Go.RowKit Go.Shelf Go.Lib Go.Sort
set_option linter.unusedVariables false
set_option linter.unusedSimpArgs false

theorem w64 (i : Nat) (h : i ≤ 1000) : RowKit.wrap64 (i : Int) = (i : Int) := by unfold RowKit.wrap64; omega

set_option maxHeartbeats 4000000 in
set_option maxRecDepth 1000000 in
theorem swapRange_ok (k : Nat) (hk2 : k = 2) (blk off cap a b n : Nat) (d0 d : Array Cut) (w0 w : World) (R : RowK encC k w0 blk off d0) (hs : d.size = d0.size) (S : SWK encC k w0 blk off d w) (ha : a + n ≤ d.size) (hb : b + n ≤ d.size) (hsz : d.size ≤ 1000) (f : Value) :
    Calls Try.prog 50 #[.slice (some ⟨blk, off, none⟩) d.size cap, .int .i64 a, .int .i64 b, .int .i64 n, f] w fun e w' => e = .returned (.tuple #[]) ∧ SWK encC k w0 blk off (swapR d a b n) w' := by
  have S0 : Aside (SWK encC k w0 blk off d w) := S
  clear S
  have aE : ∀ w, (isAgg 63).run Try.prog w = .ok true w := fun w => by kernel_rfl
  have zE : ∀ w, (Go.sizeOf 63).run Try.prog w = .ok k w := fun w => by rw [hk2]; kernel_rfl
  have tS : Try.prog.underlying 61 = some (TypeDesc.slice 63) := by kernel_rfl
  have mixed : Try.prog.follows Departure.mixedOrders = true := by kernel_rfl
  clear hk2
  go_enter Try.func50, Try.ntmps50
  generalize (63 : Nat) = T at aE zE tS ⊢
  generalize (61 : Nat) = TS at tS ⊢
  go_wp2_with fail
  go_loopw [10] (fun i wr => ∃ k' : Nat, k' ≤ n ∧ i = .int .i64 (k' : Int) ∧ Aside (SWK encC k w0 blk off (swapR d a b k') wr)) (fun i _ => n - (intOf i).toNat)
  case atStart => exact ⟨0, by omega, rfl, S0⟩
  case round =>
    clear S0
    obtain ⟨q, hq, rfl, S1⟩ := hrel
    by_cases hlt : q < n
    · have hkn : (q : Int) < (n : Int) := by omega
      have hz := swapR_size d a b q
      have hnext : swapR d a b (q + 1) = swp (swapR d a b q) (a + q) (b + q) := rfl
      obtain ⟨dk, hdk⟩ : ∃ x, swapR d a b q = x := ⟨_, rfl⟩
      rw [hdk] at S1 hz hnext
      have HN := Lib.hid hnext
      clear hdk hnext
      obtain ⟨i, hi⟩ : ∃ i, a + q = i := ⟨_, rfl⟩
      obtain ⟨j, hj⟩ : ∃ j, b + q = j := ⟨_, rfl⟩
      have ba44 : (i : Int) < (d.size : Int) := by omega
      have bc44 : (j : Int) < (d.size : Int) := by omega
      have S2 : Aside (SWK encC k w0 blk off (swp dk i j) ((wr.drew.setCells blk (off + i * k) (encC dk[j]!)).setCells blk (off + j * k) (encC dk[i]!))) := S1.out.swapped R i j (by omega) (by omega)
      have l44a := S1.out.ld1 R (by omega) Try.prog i (by omega)
      have l44b := S1.out.ld1 R (by omega) Try.prog j (by omega)
      have s44a := S1.out.st1 R (by omega) Try.prog i (by omega) dk[j]!
      have s44b := S1.out.st2 R (by omega) Try.prog i j (by omega) (by omega) dk[j]! dk[i]!
      have n44a : (encC dk[i]!).length = k := R.hk _
      have n44b : (encC dk[j]!).length = k := R.hk _
      generalize encC dk[i]! = cI44 at S2 l44a s44b n44a
      generalize encC dk[j]! = cJ44 at S2 l44b s44a s44b n44b
      have wi' : IntKind.i64.wrap ((a : Int) + (q : Int)) = (i : Int) := by rw [← Int.natCast_add, hi, IntKind.wrap_i64]; omega
      have wj' : IntKind.i64.wrap ((b : Int) + (q : Int)) = (j : Int) := by rw [← Int.natCast_add, hj, IntKind.wrap_i64]; omega
      have ei : ((i : Int)).toNat = i := by rfl
      have pi : (0 : Int) ≤ (i : Int) := Int.natCast_nonneg i
      have ej : ((j : Int)).toNat = j := by rfl
      have pj : (0 : Int) ≤ (j : Int) := Int.natCast_nonneg j
      have HI := Lib.hid hi
      have HJ := Lib.hid hj
      have HLT := Lib.hid hlt
      clear S1 hi hj hlt
      go_wp2_with fail
      go_big_region_o
      clear l44a l44b s44a s44b
      generalize (wr.drew.setCells blk (off + i * k) cJ44).setCells blk (off + j * k) cI44 = w2 at S2 ⊢
      have hlt := HLT.out
      go_wp2
      go_roundw
      case rel => exact ⟨q + 1, by omega, by go_num, by rw [HN.out, HI.out, HJ.out]; exact S2⟩
      case measure => simp [intOf]; omega
    · obtain rfl : n = q := by omega
      go_wp2_with fail
      go_end0
      exact ⟨rfl, S1.out⟩

end Go.Proofs.Ytncodoaphfeefaa
