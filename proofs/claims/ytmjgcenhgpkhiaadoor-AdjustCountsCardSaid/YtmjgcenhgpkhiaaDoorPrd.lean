/- Package periods, in this seat. -/
import Derived.Test.YtmjgcenhgpkhiaaDoorMgD
import Derived.WalkKit
import Derived.ProofKit
import Derived.Below
import Derived.Outline
import Derived.Lib.Hide
import Derived.WalkSmall
import Derived.RegionTactic
import Derived.BigRegion
import Derived.BigQuiet
import Derived.Deep.QuietTactic
import Derived.Deep.RegionHeld3
import Derived.Deep.DeepCutAuto
import Derived.Deep.DeepFit
namespace Go.Proofs.YtmjgcenhgpkhiaaDoor
open Go.ChangeShapes Go.WideShapes Go.ChangeAt Go.RowKit

/-- A Periods object in block b, its spans in block s. -/
structure Per (w : World) (b s : Nat) (size locked : Int) : Prop where
  h0 : w.cell? ⟨b, 0, none⟩ = some (.pointer (some ⟨s, 0, none⟩))
  h1 : w.cell? ⟨b, 1, none⟩ = some (.int .i64 locked)
  hs : w.cell? ⟨s, 0, none⟩ = some (.int .i64 size)
  f1 : w.frozen? ⟨b, 1, none⟩ = false
  ne : b ≠ s

theorem Per.lt {w : World} {b s : Nat} {size locked : Int} (h : Per w b s size locked) : b < w.heap.size ∧ s < w.heap.size :=
  ⟨World.block_lt_of_cell? w _ h.h0, World.block_lt_of_cell? w _ h.hs⟩

theorem Per.below {w w' : World} {b s B : Nat} {size locked : Int} (h : Per w b s size locked) (hb : Below B w w') (h1 : b < B) (h2 : s < B) : Per w' b s size locked :=
  ⟨(hb.cell (p := ⟨b, 0, none⟩) h1).trans h.h0, (hb.cell (p := ⟨b, 1, none⟩) h1).trans h.h1, (hb.cell (p := ⟨s, 0, none⟩) h2).trans h.hs, (hb.frozen (p := ⟨b, 1, none⟩) h1).trans h.f1, h.ne⟩

theorem Per.after {w w' : World} {b s : Nat} {size locked : Int} (h : Per w b s size locked) (hb : Below w.heap.size w w') : Per w' b s size locked :=
  h.below hb h.lt.1 h.lt.2

theorem Per.drew {w : World} {b s : Nat} {size locked : Int} (h : Per w b s size locked) : Per w.drew b s size locked := h.below (B := w.heap.size) ((Below.refl _ _).drew) h.lt.1 h.lt.2

theorem Per.set {w : World} {b s : Nat} {size locked : Int} (h : Per w b s size locked) (l : Int) : Per (w.setCell ⟨b, 1, none⟩ (.int .i64 l)) b s size l :=
  ⟨(World.cell?_setCell_other w _ _ _ (by simp)).trans h.h0, World.cell?_setCell_same w _ _ h.h1, (World.cell?_setCell_other w _ _ _ (by simp)).trans h.hs, by rw [World.frozen?_setCell]; exact h.f1, h.ne⟩

/-- The last period. -/
def lastP (size : Int) : Int := 73048 / size

theorem spansOf (size day : Int) (w : World) (h1 : 1 ≤ size) (h3 : 0 ≤ day) (h4 : day ≤ 1000000) :
    Calls Tryd.prog 87 #[.agg #[.int .i64 size], .int .i64 day] w fun e w' => e = .returned (.int .i64 (day / size)) ∧ Below w.heap.size w w' := by
  go_enter Tryd.func87, Tryd.ntmps87
  go_wp2
  go_ret
  exact ⟨rfl, (Below.refl _ _).alloc (Nat.le_refl _) _⟩

theorem spansLast (size : Int) (w : World) (h1 : 1 ≤ size) :
    Calls Tryd.prog 76 #[.agg #[.int .i64 size]] w fun e w' => e = .returned (.int .i64 (lastP size)) ∧ Below w.heap.size w w' := by
  go_enter Tryd.func76, Tryd.ntmps76
  go_wp2_with (go_at_call 87; refine (spansOf _ _ _ (by omega) (by omega) (by omega)).mono ?_; rintro e w' ⟨rfl, hb'⟩)
  go_ret
  exact ⟨rfl, ((Below.refl _ _).alloc (Nat.le_refl _) _).trans (hb'.mono (by simp))⟩

theorem plast_ok (b s : Nat) (size locked : Int) (w : World) (hP : Per w b s size locked) (h1 : 1 ≤ size) :
    Calls Tryd.prog 71 #[.pointer (some ⟨b, 0, none⟩)] w fun e w' => e = .returned (.int .i64 (lastP size)) ∧ Below w.heap.size w w' := by
  obtain ⟨q0, q1, qs, qf, qn⟩ := hP
  go_enter Tryd.func71, Tryd.ntmps71
  go_wp2_with (go_at_call 76; refine (spansLast _ _ (by omega)).mono ?_; rintro e w' ⟨rfl, hb'⟩)
  go_ret
  exact ⟨rfl, hb'⟩

theorem pcheck_ok (b s : Nat) (size locked period : Int) (w : World) (hP : Per w b s size locked) (h1 : 1 ≤ size) (h3 : 0 ≤ period) (h4 : period ≤ lastP size) :
    Calls Tryd.prog 62 #[.pointer (some ⟨b, 0, none⟩), .int .i64 period] w fun e w' => e = .returned (.int .i64 0) ∧ Below w.heap.size w w' := by
  go_enter Tryd.func62, Tryd.ntmps62
  go_wp2_with (go_at_call 71; refine (plast_ok b s size locked _ hP (by omega)).mono ?_; rintro e w' ⟨rfl, hb'⟩)
  go_ret
  exact ⟨rfl, hb'⟩

theorem pcheck_bad (b s : Nat) (size locked period : Int) (w : World) (hP : Per w b s size locked) (h1 : 1 ≤ size) (h3 : period < 0 ∨ lastP size < period) :
    Calls Tryd.prog 62 #[.pointer (some ⟨b, 0, none⟩), .int .i64 period] w fun e w' => e = .returned (.int .i64 10) ∧ Below w.heap.size w w' := by
  rcases h3 with h3 | h3
  · go_enter Tryd.func62, Tryd.ntmps62
    go_wp2
    go_ret
    exact ⟨rfl, Below.refl _ _⟩
  · by_cases h5 : period < 0
    · go_enter Tryd.func62, Tryd.ntmps62
      go_wp2
      go_ret
      exact ⟨rfl, Below.refl _ _⟩
    · go_enter Tryd.func62, Tryd.ntmps62
      go_wp2_with (go_at_call 71; refine (plast_ok b s size locked _ hP (by omega)).mono ?_; rintro e w' ⟨rfl, hb'⟩)
      go_ret
      exact ⟨rfl, hb'⟩

/-- A period's last day. -/
def toP (size period : Int) : Int := if period * size + size - 1 ≤ 73048 then period * size + size - 1 else 73048

theorem pmul_last (size period : Int) (h1 : 1 ≤ size) (h3 : 0 ≤ period) (h4 : period ≤ lastP size) : 0 ≤ period * size ∧ period * size ≤ 73048 := by
  unfold lastP at h4
  have a := Int.mul_nonneg h3 (show 0 ≤ size by omega)
  have b := Int.mul_le_mul_of_nonneg_right h4 (show 0 ≤ size by omega)
  have c := Int.ediv_mul_le 73048 (show size ≠ 0 by omega)
  exact ⟨a, by omega⟩

theorem pspan_ok (b s : Nat) (size locked period : Int) (w : World) (hP : Per w b s size locked) (h1 : 1 ≤ size) (h2 : size ≤ 400) (h3 : 0 ≤ period) (h4 : period ≤ lastP size) :
    Calls Tryd.prog 51 #[.pointer (some ⟨b, 0, none⟩), .int .i64 period] w fun e w' => e = .returned (.tuple #[.int .i64 (period * size), .int .i64 (toP size period), .int .i64 0]) ∧ Below w.heap.size w w' := by
  obtain ⟨m1, m2⟩ := pmul_last size period h1 h3 h4
  have ht := toP.eq_1 size period
  have HT := Lib.hid ht
  clear ht
  by_cases hc : period * size + size - 1 ≤ 73048
  all_goals
    first
      | have hm : min (period * size + size - 1) 73048 = period * size + size - 1 := by omega
      | have hm : min (period * size + size - 1) 73048 = 73048 := by omega
    go_enter Tryd.func51, Tryd.ntmps51
    go_wp2_with (go_at_call 62; refine (pcheck_ok b s size locked _ _ hP h1 h3 h4).mono ?_; rintro e w' ⟨rfl, hb'⟩; have hP' := hP.after hb'; obtain ⟨q0, q1, qs, qf, qn⟩ := hP')
    go_quiet (fail)
    go_wp2
    go_ret3
    rw [HT.out]
    first | rw [if_pos hc] | rw [if_neg (by omega)]
    exact ⟨rfl, below_drewN hb' _⟩

theorem pspan_bad (b s : Nat) (size locked period : Int) (w : World) (hP : Per w b s size locked) (h1 : 1 ≤ size) (h3 : period < 0 ∨ lastP size < period) :
    Calls Tryd.prog 51 #[.pointer (some ⟨b, 0, none⟩), .int .i64 period] w fun e w' => e = .returned (.tuple #[.int .i64 0, .int .i64 0, .int .i64 10]) ∧ Below w.heap.size w w' := by
  go_enter Tryd.func51, Tryd.ntmps51
  go_wp2_with (go_at_call 62; refine (pcheck_bad b s size locked _ _ hP h1 h3).mono ?_; rintro e w' ⟨rfl, hb'⟩)
  go_ret3
  exact ⟨rfl, hb'⟩

theorem plocked_ok (b s : Nat) (size locked period : Int) (w : World) (hP : Per w b s size locked) (h1 : 1 ≤ size) (h3 : 0 ≤ period) (h4 : period ≤ lastP size) :
    Calls Tryd.prog 52 #[.pointer (some ⟨b, 0, none⟩), .int .i64 period] w fun e w' => e = .returned (.bool (decide (period < locked))) ∧ Below w.heap.size w w' := by
  go_enter Tryd.func52, Tryd.ntmps52
  go_wp2_with (go_at_call 62; refine (pcheck_ok b s size locked _ _ hP h1 h3 h4).mono ?_; rintro e w' ⟨rfl, hb'⟩; have hP' := hP.after hb'; obtain ⟨q0, q1, qs, qf, qn⟩ := hP')
  go_ret
  exact ⟨rfl, hb'⟩

theorem plocked_bad (b s : Nat) (size locked period : Int) (w : World) (hP : Per w b s size locked) (h1 : 1 ≤ size) (h3 : period < 0 ∨ lastP size < period) :
    Calls Tryd.prog 52 #[.pointer (some ⟨b, 0, none⟩), .int .i64 period] w fun e w' => e = .returned (.bool false) ∧ Below w.heap.size w w' := by
  go_enter Tryd.func52, Tryd.ntmps52
  go_wp2_with (go_at_call 62; refine (pcheck_bad b s size locked _ _ hP h1 h3).mono ?_; rintro e w' ⟨rfl, hb'⟩)
  go_ret
  exact ⟨rfl, hb'⟩

/-- What Lock answers. -/
def lockE (size locked period clock : Int) : Int :=
  if period < 0 ∨ lastP size < period then 10 else if period < locked then 19 else if locked < period then 24 else if clock ≤ toP size period then 18 else 0
/-- How many are locked behind it. -/
def lockN (size locked period clock : Int) : Int := if lockE size locked period clock = 0 then locked + 1 else locked

theorem Per.grown {w w' : World} {b s : Nat} {size locked : Int} {row : Option Nat} (h : Per w b s size locked) (hg : w.grownBy w' row) (h1 : row ≠ some b) (h2 : row ≠ some s) : Per w' b s size locked :=
  ⟨grown_cell hg h.h0 h1, grown_cell hg h.h1 h1, grown_cell hg h.hs h2, grown_frozen hg h.h1 h.f1 h1, h.ne⟩

theorem pnew_bad (size : Int) (w : World) (h : size < 1 ∨ 400 < size) :
    Calls Tryd.prog 31 #[.int .i64 size] w fun e w' => e = .returned (.tuple #[.pointer none, .int .i64 10]) ∧ w = w' := by
  rcases h with h | h
  · go_enter Tryd.func31, Tryd.ntmps31
    go_wp2
    go_ret2
    exact ⟨rfl, rfl⟩
  · have h' : ¬ size < 1 := by omega
    go_enter Tryd.func31, Tryd.ntmps31
    go_wp2
    go_ret2
    exact ⟨rfl, rfl⟩

/-- What a call that made a Periods object ends with. -/
def NewPer (size : Int) (w : World) (e : Ending) (w' : World) : Prop :=
  ∃ b s : Nat, e = .returned (.tuple #[.pointer (some ⟨b, 0, none⟩), .int .i64 0]) ∧ Per w' b s size 0 ∧ Below w.heap.size w w' ∧ w.heap.size ≤ b ∧ w.heap.size ≤ s

theorem pnew_ok (size : Int) (w : World) (h1 : 1 ≤ size) (h2 : size ≤ 400) :
    Calls Tryd.prog 31 #[.int .i64 size] w (NewPer size w) := by
  go_enter Tryd.func31, Tryd.ntmps31
  go_wp2
  go_ret2
  refine ⟨w.heap.size + 1, w.heap.size, rfl, ⟨?_, ?_, ?_, ?_, ?_⟩, ((Below.refl _ _).alloc (Nat.le_refl _) _).alloc (by simp) _, by omega, by omega⟩ <;> go_simp

end Go.Proofs.YtmjgcenhgpkhiaaDoor
