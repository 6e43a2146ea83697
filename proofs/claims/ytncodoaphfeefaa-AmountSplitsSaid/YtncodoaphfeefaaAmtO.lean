/- slices.rotateCmpFunc of cuts. -/
import Derived.Test.YtncodoaphfeefaaAmtN
namespace Go.Proofs.Ytncodoaphfeefaa
open Go.RowKit Go.Shelf Go.Lib Go.Sort
set_option linter.unusedVariables false
set_option linter.unusedSimpArgs false

def RotEnd (k : Nat) (w0 : World) (blk off : Nat) (d : Array Cut) (a m b : Nat) (e : Ending) (w' : World) : Prop := e = .returned (.tuple #[]) ∧ ∃ d', RotOf d d' a m b ∧ SWK encC k w0 blk off d' w'
structure RotI (k : Nat) (w0 : World) (blk off : Nat) (d : Array Cut) (a m b i j : Nat) (wr : World) : Prop where
  ex : ∃ dk, dk.size = d.size ∧ SWK encC k w0 blk off dk wr ∧ ∀ d', RotOf dk d' (m - i) m (m + j) → RotOf d d' a m b
  i0 : 0 < i
  j0 : 0 < j
  im : i ≤ m
  jb : m + j ≤ d.size

set_option maxHeartbeats 4000000 in
theorem rotate_ok (k : Nat) (hk2 : k = 2) (blk off cap a m b : Nat) (d0 d : Array Cut) (w0 w : World) (R : RowK encC k w0 blk off d0) (hs : d.size = d0.size) (S : SWK encC k w0 blk off d w) (ham : a < m) (hmb : m < b) (hb : b ≤ d.size) (hsz : d.size ≤ 1000) (f : Value) :
    Calls Try.prog 49 #[.slice (some ⟨blk, off, none⟩) d.size cap, .int .i64 a, .int .i64 m, .int .i64 b, f] w (RotEnd k w0 blk off d a m b) := by
  have HI0 : Hid (RotI k w0 blk off d a m b (m - a) (b - m) w) := ⟨⟨d, rfl, S, fun d' h => by rwa [show m - (m - a) = a by omega, show m + (b - m) = b by omega] at h⟩, by omega, by omega, by omega, by omega⟩
  have HR := Lib.hid R
  have HSw : Hid (∀ (dk : Array Cut) (x y n : Nat) (W : World), dk.size = d.size → SWK encC k w0 blk off dk W → x + n ≤ d.size → y + n ≤ d.size → Calls Try.prog 50 #[.slice (some ⟨blk, off, none⟩) d.size cap, .int .i64 x, .int .i64 y, .int .i64 n, f] W fun e w' => e = .returned (.tuple #[]) ∧ SWK encC k w0 blk off (swapR dk x y n) w') := fun dk x y n W h1 h2 h3 h4 => by
    have := swapRange_ok k hk2 blk off cap x y n d0 dk w0 W R (by omega) h2 (by omega) (by omega) (by omega) f
    rwa [h1] at this
  have e1 : IntKind.i64.wrap ((m : Int) - (a : Int)) = ((m - a : Nat) : Int) := by rw [IntKind.wrap_i64]; omega
  have e2 : IntKind.i64.wrap ((b : Int) - (m : Int)) = ((b - m : Nat) : Int) := by rw [IntKind.wrap_i64]; omega
  obtain ⟨i0, hi0⟩ : ∃ x, m - a = x := ⟨_, rfl⟩
  obtain ⟨j0, hj0⟩ : ∃ x, b - m = x := ⟨_, rfl⟩
  rw [hi0, hj0] at HI0
  rw [hi0] at e1
  rw [hj0] at e2
  clear S R hi0 hj0 hs
  go_enter Try.func49, Try.ntmps49
  go_wp2_with fail
  clear e1 e2
  go_loopw [10, 11] (fun vi vj wr => ∃ i j : Nat, vi = .int .i64 i ∧ vj = .int .i64 j ∧ Hid (RotI k w0 blk off d a m b i j wr)) (fun vi vj _ => (intOf vi).toNat + (intOf vj).toNat)
  case atStart => exact ⟨i0, j0, rfl, rfl, HI0⟩
  case round =>
    obtain ⟨i, j, rfl, rfl, HI⟩ := hrel
    have hp := HI.out.i0
    have hq := HI.out.j0
    have him := HI.out.im
    have hjb := HI.out.jb
    obtain ⟨dk, hdk, hS, hrot⟩ := HI.out.ex
    have HS := Lib.hid hS
    have HRo := Lib.hid hrot
    clear hS hrot HI
    have s1 : IntKind.i64.wrap ((m : Int) - (i : Int)) = ((m - i : Nat) : Int) := by rw [IntKind.wrap_i64]; omega
    obtain ⟨mi, hmi⟩ : ∃ x, m - i = x := ⟨_, rfl⟩
    rw [hmi] at s1
    have HMi := Lib.hid hmi
    clear hmi
    rcases Nat.lt_trichotomy j i with hlt | heq | hgt
    · have d1 : ((i : Int) != (j : Int)) = true := by rw [bne_iff_ne]; omega
      have d2 : decide ((j : Int) < (i : Int)) = true := decide_eq_true (by omega)
      have s2 : IntKind.i64.wrap ((i : Int) - (j : Int)) = ((i - j : Nat) : Int) := by rw [IntKind.wrap_i64]; omega
      obtain ⟨ij, hij⟩ : ∃ x, i - j = x := ⟨_, rfl⟩
      rw [hij] at s2
      have hne : (i != j) = true := by rw [bne_iff_ne]; omega
      have HIj := Lib.hid hij
      have HC := Lib.hid (HSw.out dk mi m j wr hdk HS.out (by have := HMi.out; omega) (by omega))
      clear hij
      go_wp2_with fail
      with_reducible refine HC.out.mono ?_
      rintro e w5 ⟨rfl, hS5⟩
      have HN : Hid (RotI k w0 blk off d a m b ij j w5) := by
        have e1 := HMi.out
        have e2 := HIj.out
        refine ⟨⟨swapR dk mi m j, by rw [swapR_size]; exact hdk, hS5, fun d' h => HRo.out d' ?_⟩, by omega, hq, by omega, hjb⟩
        refine rot_more dk d' m i j hlt him (by omega) ?_
        rw [e1, e2]
        exact h
      clear hS5 HC
      go_wp2_with fail
      go_roundw
      case rel => exact ⟨ij, j, rfl, rfl, HN⟩
      case measure => have := HIj.out; simp [intOf]; omega
    · subst heq
      have HC := Lib.hid (HSw.out dk mi m j wr hdk HS.out (by have := HMi.out; omega) (by omega))
      have HFin : Hid (∀ w', SWK encC k w0 blk off (swapR dk mi m j) w' → RotEnd k w0 blk off d a m b (.returned (.tuple #[])) w') := fun w' hS' => ⟨rfl, _, HRo.out _ (by have := HMi.out; rw [← this]; exact rot_end dk m j him (by omega)), hS'⟩
      go_wp2_with fail
      with_reducible refine HC.out.mono ?_
      rintro e w5 ⟨rfl, hS5⟩
      have HS5 := Lib.hid hS5
      clear hS5 HC
      go_wp2_with fail
      go_end0
      exact HFin.out _ HS5.out
    · have d1 : ((i : Int) != (j : Int)) = true := by rw [bne_iff_ne]; omega
      have d2 : decide ((j : Int) < (i : Int)) = false := decide_eq_false (by omega)
      have s2 : IntKind.i64.wrap ((j : Int) - (i : Int)) = ((j - i : Nat) : Int) := by rw [IntKind.wrap_i64]; omega
      have s3 : IntKind.i64.wrap ((m : Int) + (j : Int)) = ((m + j : Nat) : Int) := by rw [IntKind.wrap_i64]; omega
      obtain ⟨mj, hmj⟩ : ∃ x, m + j = x := ⟨_, rfl⟩
      rw [hmj] at s3
      have s4 : IntKind.i64.wrap ((mj : Int) - (i : Int)) = ((mj - i : Nat) : Int) := by rw [IntKind.wrap_i64]; omega
      obtain ⟨mji, hmji⟩ : ∃ x, mj - i = x := ⟨_, rfl⟩
      rw [hmji] at s4
      obtain ⟨ji, hji⟩ : ∃ x, j - i = x := ⟨_, rfl⟩
      rw [hji] at s2
      have hne : (i != j) = true := by rw [bne_iff_ne]; omega
      have HMj := Lib.hid (And.intro hmj (And.intro hmji hji))
      have HC := Lib.hid (HSw.out dk mi mji i wr hdk HS.out (by have := HMi.out; omega) (by omega))
      clear hmj hmji hji
      go_wp2_with fail
      with_reducible refine HC.out.mono ?_
      rintro e w5 ⟨rfl, hS5⟩
      have HN : Hid (RotI k w0 blk off d a m b i ji w5) := by
        have e1 := HMi.out
        obtain ⟨e2, e3, e4⟩ := HMj.out
        refine ⟨⟨swapR dk mi mji i, by rw [swapR_size]; exact hdk, hS5, fun d' h => HRo.out d' ?_⟩, hp, by omega, him, by omega⟩
        refine rot_less dk d' m i j hgt him (by omega) ?_
        rw [e1, e2, e3, e4]
        rw [e1] at h
        exact h
      clear hS5 HC
      go_wp2_with fail
      go_roundw
      case rel => exact ⟨i, ji, rfl, rfl, HN⟩
      case measure => have := HMj.out; simp [intOf]; omega

end Go.Proofs.Ytncodoaphfeefaa
