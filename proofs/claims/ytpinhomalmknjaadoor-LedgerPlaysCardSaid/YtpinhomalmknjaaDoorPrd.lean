/- Package periods, in this seat. -/
import Derived.Test.YtpinhomalmknjaaDoorLgA
import Derived.WalkKit
import Derived.ProofKit
import Derived.Below
import Derived.Outline
import Derived.Lib.Hide
import Derived.WalkSmall
import Derived.RegionTactic
import Derived.BigRegion
import Derived.BigQuiet
import Derived.Deep.QuietTactic
import Derived.Deep.RegionHeld3
import Derived.Deep.DeepCutAuto
import Derived.Deep.DeepFit
namespace Go.Proofs.YtpinhomalmknjaaDoor
open Go.ChangeShapes Go.WideShapes Go.ChangeAt Go.RowKit

/-- A Periods object in block b, its spans in block s. -/
structure Per (w : World) (b s : Nat) (size locked : Int) : Prop where
  h0 : w.cell? ⟨b, 0, none⟩ = some (.pointer (some ⟨s, 0, none⟩))
  h1 : w.cell? ⟨b, 1, none⟩ = some (.int .i64 locked)
  hs : w.cell? ⟨s, 0, none⟩ = some (.int .i64 size)
  f1 : w.frozen? ⟨b, 1, none⟩ = false
  ne : b ≠ s

theorem Per.lt {w : World} {b s : Nat} {size locked : Int} (h : Per w b s size locked) : b < w.heap.size ∧ s < w.heap.size :=
  ⟨World.block_lt_of_cell? w _ h.h0, World.block_lt_of_cell? w _ h.hs⟩

theorem Per.below {w w' : World} {b s B : Nat} {size locked : Int} (h : Per w b s size locked) (hb : Below B w w') (h1 : b < B) (h2 : s < B) : Per w' b s size locked :=
  ⟨(hb.cell (p := ⟨b, 0, none⟩) h1).trans h.h0, (hb.cell (p := ⟨b, 1, none⟩) h1).trans h.h1, (hb.cell (p := ⟨s, 0, none⟩) h2).trans h.hs, (hb.frozen (p := ⟨b, 1, none⟩) h1).trans h.f1, h.ne⟩

theorem Per.after {w w' : World} {b s : Nat} {size locked : Int} (h : Per w b s size locked) (hb : Below w.heap.size w w') : Per w' b s size locked :=
  h.below hb h.lt.1 h.lt.2

theorem Per.drew {w : World} {b s : Nat} {size locked : Int} (h : Per w b s size locked) : Per w.drew b s size locked := h.below (B := w.heap.size) ((Below.refl _ _).drew) h.lt.1 h.lt.2

theorem Per.set {w : World} {b s : Nat} {size locked : Int} (h : Per w b s size locked) (l : Int) : Per (w.setCell ⟨b, 1, none⟩ (.int .i64 l)) b s size l :=
  ⟨(World.cell?_setCell_other w _ _ _ (by simp)).trans h.h0, World.cell?_setCell_same w _ _ h.h1, (World.cell?_setCell_other w _ _ _ (by simp)).trans h.hs, by rw [World.frozen?_setCell]; exact h.f1, h.ne⟩

/-- The last period. -/
def lastP (size : Int) : Int := 73048 / size

theorem spansOf (size day : Int) (w : World) (h1 : 1 ≤ size) (h3 : 0 ≤ day) (h4 : day ≤ 1000000) :
    Calls Tryd.prog 73 #[.agg #[.int .i64 size], .int .i64 day] w fun e w' => e = .returned (.int .i64 (day / size)) ∧ Below w.heap.size w w' := by
  go_enter Tryd.func73, Tryd.ntmps73
  go_wp2
  go_ret
  exact ⟨rfl, (Below.refl _ _).alloc (Nat.le_refl _) _⟩

theorem spansLast (size : Int) (w : World) (h1 : 1 ≤ size) :
    Calls Tryd.prog 66 #[.agg #[.int .i64 size]] w fun e w' => e = .returned (.int .i64 (lastP size)) ∧ Below w.heap.size w w' := by
  go_enter Tryd.func66, Tryd.ntmps66
  go_wp2_with (go_at_call 73; refine (spansOf _ _ _ (by omega) (by omega) (by omega)).mono ?_; rintro e w' ⟨rfl, hb'⟩)
  go_ret
  exact ⟨rfl, ((Below.refl _ _).alloc (Nat.le_refl _) _).trans (hb'.mono (by simp))⟩

theorem plast_ok (b s : Nat) (size locked : Int) (w : World) (hP : Per w b s size locked) (h1 : 1 ≤ size) :
    Calls Tryd.prog 39 #[.pointer (some ⟨b, 0, none⟩)] w fun e w' => e = .returned (.int .i64 (lastP size)) ∧ Below w.heap.size w w' := by
  obtain ⟨q0, q1, qs, qf, qn⟩ := hP
  go_enter Tryd.func39, Tryd.ntmps39
  go_wp2_with (go_at_call 66; refine (spansLast _ _ (by omega)).mono ?_; rintro e w' ⟨rfl, hb'⟩)
  go_ret
  exact ⟨rfl, hb'⟩

theorem pcheck_ok (b s : Nat) (size locked period : Int) (w : World) (hP : Per w b s size locked) (h1 : 1 ≤ size) (h3 : 0 ≤ period) (h4 : period ≤ lastP size) :
    Calls Tryd.prog 55 #[.pointer (some ⟨b, 0, none⟩), .int .i64 period] w fun e w' => e = .returned (.int .i64 0) ∧ Below w.heap.size w w' := by
  go_enter Tryd.func55, Tryd.ntmps55
  go_wp2_with (go_at_call 39; refine (plast_ok b s size locked _ hP (by omega)).mono ?_; rintro e w' ⟨rfl, hb'⟩)
  go_ret
  exact ⟨rfl, hb'⟩

theorem pcheck_bad (b s : Nat) (size locked period : Int) (w : World) (hP : Per w b s size locked) (h1 : 1 ≤ size) (h3 : period < 0 ∨ lastP size < period) :
    Calls Tryd.prog 55 #[.pointer (some ⟨b, 0, none⟩), .int .i64 period] w fun e w' => e = .returned (.int .i64 10) ∧ Below w.heap.size w w' := by
  rcases h3 with h3 | h3
  · go_enter Tryd.func55, Tryd.ntmps55
    go_wp2
    go_ret
    exact ⟨rfl, Below.refl _ _⟩
  · by_cases h5 : period < 0
    · go_enter Tryd.func55, Tryd.ntmps55
      go_wp2
      go_ret
      exact ⟨rfl, Below.refl _ _⟩
    · go_enter Tryd.func55, Tryd.ntmps55
      go_wp2_with (go_at_call 39; refine (plast_ok b s size locked _ hP (by omega)).mono ?_; rintro e w' ⟨rfl, hb'⟩)
      go_ret
      exact ⟨rfl, hb'⟩

/-- A period's last day. -/
def toP (size period : Int) : Int := if period * size + size - 1 ≤ 73048 then period * size + size - 1 else 73048

theorem pmul_last (size period : Int) (h1 : 1 ≤ size) (h3 : 0 ≤ period) (h4 : period ≤ lastP size) : 0 ≤ period * size ∧ period * size ≤ 73048 := by
  unfold lastP at h4
  have a := Int.mul_nonneg h3 (show 0 ≤ size by omega)
  have b := Int.mul_le_mul_of_nonneg_right h4 (show 0 ≤ size by omega)
  have c := Int.ediv_mul_le 73048 (show size ≠ 0 by omega)
  exact ⟨a, by omega⟩

theorem pspan_ok (b s : Nat) (size locked period : Int) (w : World) (hP : Per w b s size locked) (h1 : 1 ≤ size) (h2 : size ≤ 400) (h3 : 0 ≤ period) (h4 : period ≤ lastP size) :
    Calls Tryd.prog 47 #[.pointer (some ⟨b, 0, none⟩), .int .i64 period] w fun e w' => e = .returned (.tuple #[.int .i64 (period * size), .int .i64 (toP size period), .int .i64 0]) ∧ Below w.heap.size w w' := by
  obtain ⟨m1, m2⟩ := pmul_last size period h1 h3 h4
  have ht := toP.eq_1 size period
  have HT := Lib.hid ht
  clear ht
  by_cases hc : period * size + size - 1 ≤ 73048
  all_goals
    first
      | have hm : min (period * size + size - 1) 73048 = period * size + size - 1 := by omega
      | have hm : min (period * size + size - 1) 73048 = 73048 := by omega
    go_enter Tryd.func47, Tryd.ntmps47
    go_wp2_with (go_at_call 55; refine (pcheck_ok b s size locked _ _ hP h1 h3 h4).mono ?_; rintro e w' ⟨rfl, hb'⟩; have hP' := hP.after hb'; obtain ⟨q0, q1, qs, qf, qn⟩ := hP')
    go_quiet (fail)
    go_wp2
    go_ret3
    rw [HT.out]
    first | rw [if_pos hc] | rw [if_neg (by omega)]
    exact ⟨rfl, below_drewN hb' _⟩

theorem pspan_bad (b s : Nat) (size locked period : Int) (w : World) (hP : Per w b s size locked) (h1 : 1 ≤ size) (h3 : period < 0 ∨ lastP size < period) :
    Calls Tryd.prog 47 #[.pointer (some ⟨b, 0, none⟩), .int .i64 period] w fun e w' => e = .returned (.tuple #[.int .i64 0, .int .i64 0, .int .i64 10]) ∧ Below w.heap.size w w' := by
  go_enter Tryd.func47, Tryd.ntmps47
  go_wp2_with (go_at_call 55; refine (pcheck_bad b s size locked _ _ hP h1 h3).mono ?_; rintro e w' ⟨rfl, hb'⟩)
  go_ret3
  exact ⟨rfl, hb'⟩

theorem pearliest_ok (b s : Nat) (size locked : Int) (w : World) (hP : Per w b s size locked) (h1 : 1 ≤ size) (h4 : locked ≤ lastP size) :
    Calls Tryd.prog 30 #[.pointer (some ⟨b, 0, none⟩)] w fun e w' => e = .returned (.tuple #[.int .i64 locked, .int .i64 0]) ∧ Below w.heap.size w w' := by
  go_enter Tryd.func30, Tryd.ntmps30
  go_wp2_with fail
  go_region_held3 (fun w' => w'.cell? ⟨b, 1, none⟩ = some (.int .i64 locked) ∧ Per w' b s size locked ∧ Below w.heap.size w w') (first | exact ⟨hP.drew.h1, hP.drew, (Below.refl _ _).drew⟩ | exact ⟨hP1.h1, hP1, (Below.refl _ _).drew.trans hb1⟩)
    (first | (go_at_call 39; refine (plast_ok b s size locked _ hP.drew (by omega)).mono ?_; rintro e w1 ⟨rfl, hb1⟩; have hP1 := hP.drew.after hb1))
  have q1 := hP1.h1
  go_wp2
  go_ret2
  exact ⟨rfl, (Below.refl _ _).drew.trans hb1⟩

theorem pearliest_full (b s : Nat) (size locked : Int) (w : World) (hP : Per w b s size locked) (h1 : 1 ≤ size) (h4 : lastP size < locked) :
    Calls Tryd.prog 30 #[.pointer (some ⟨b, 0, none⟩)] w fun e w' => e = .returned (.tuple #[.int .i64 0, .int .i64 21]) ∧ Below w.heap.size w w' := by
  go_enter Tryd.func30, Tryd.ntmps30
  go_wp2_with fail
  go_region_held3 (fun w' => w'.cell? ⟨b, 1, none⟩ = some (.int .i64 locked) ∧ Per w' b s size locked ∧ Below w.heap.size w w') (first | exact ⟨hP.drew.h1, hP.drew, (Below.refl _ _).drew⟩ | exact ⟨hP1.h1, hP1, (Below.refl _ _).drew.trans hb1⟩)
    (first | (go_at_call 39; refine (plast_ok b s size locked _ hP.drew (by omega)).mono ?_; rintro e w1 ⟨rfl, hb1⟩; have hP1 := hP.drew.after hb1))
  have q1 := hP1.h1
  go_wp2
  go_ret2
  exact ⟨rfl, (Below.refl _ _).drew.trans hb1⟩

theorem plocked_ok (b s : Nat) (size locked period : Int) (w : World) (hP : Per w b s size locked) (h1 : 1 ≤ size) (h3 : 0 ≤ period) (h4 : period ≤ lastP size) :
    Calls Tryd.prog 32 #[.pointer (some ⟨b, 0, none⟩), .int .i64 period] w fun e w' => e = .returned (.bool (decide (period < locked))) ∧ Below w.heap.size w w' := by
  go_enter Tryd.func32, Tryd.ntmps32
  go_wp2_with (go_at_call 55; refine (pcheck_ok b s size locked _ _ hP h1 h3 h4).mono ?_; rintro e w' ⟨rfl, hb'⟩; have hP' := hP.after hb'; obtain ⟨q0, q1, qs, qf, qn⟩ := hP')
  go_ret
  exact ⟨rfl, hb'⟩

theorem plocked_bad (b s : Nat) (size locked period : Int) (w : World) (hP : Per w b s size locked) (h1 : 1 ≤ size) (h3 : period < 0 ∨ lastP size < period) :
    Calls Tryd.prog 32 #[.pointer (some ⟨b, 0, none⟩), .int .i64 period] w fun e w' => e = .returned (.bool false) ∧ Below w.heap.size w w' := by
  go_enter Tryd.func32, Tryd.ntmps32
  go_wp2_with (go_at_call 55; refine (pcheck_bad b s size locked _ _ hP h1 h3).mono ?_; rintro e w' ⟨rfl, hb'⟩)
  go_ret
  exact ⟨rfl, hb'⟩

/-- What Lock answers. -/
def lockE (size locked period clock : Int) : Int :=
  if period < 0 ∨ lastP size < period then 10 else if period < locked then 19 else if locked < period then 24 else if clock ≤ toP size period then 18 else 0
/-- How many are locked behind it. -/
def lockN (size locked period clock : Int) : Int := if lockE size locked period clock = 0 then locked + 1 else locked

theorem Per.grown {w w' : World} {b s : Nat} {size locked : Int} {row : Option Nat} (h : Per w b s size locked) (hg : w.grownBy w' row) (h1 : row ≠ some b) (h2 : row ≠ some s) : Per w' b s size locked :=
  ⟨grown_cell hg h.h0 h1, grown_cell hg h.h1 h1, grown_cell hg h.hs h2, grown_frozen hg h.h1 h.f1 h1, h.ne⟩

theorem plock_grown (b s : Nat) (size locked period clock : Int) (w : World) (hP : Per w b s size locked) (h1 : 1 ≤ size) (h2 : size ≤ 400) (h3 : 0 ≤ locked) (h4 : locked ≤ 100000) :
    Calls Tryd.prog 31 #[.pointer (some ⟨b, 0, none⟩), .int .i64 period, .int .i64 clock] w fun e w' =>
      e = .returned (.int .i64 (lockE size locked period clock)) ∧ Per w' b s size (lockN size locked period clock) ∧ w.grownBy w' (some b) := by
  have hlt := hP.lt
  by_cases c1 : period < 0 ∨ lastP size < period
  · have hE : lockE size locked period clock = 10 := by rw [lockE, if_pos c1]
    have hN : lockN size locked period clock = locked := by rw [lockN, hE]; rfl
    rw [hE, hN]
    clear hE hN
    go_enter Tryd.func31, Tryd.ntmps31
    go_wp2_with (go_at_call 47; refine (pspan_bad b s size locked _ _ hP h1 c1).mono ?_; rintro e w' ⟨rfl, hb'⟩)
    go_ret
    exact ⟨rfl, hP.after hb', below_row hb' _⟩
  · have c1' : 0 ≤ period ∧ period ≤ lastP size := by omega
    obtain ⟨p3, p4⟩ := c1'
    by_cases c2 : period < locked
    · have hE : lockE size locked period clock = 19 := by rw [lockE, if_neg c1, if_pos c2]
      have hN : lockN size locked period clock = locked := by rw [lockN, hE]; rfl
      rw [hE, hN]
      clear hE hN c1
      go_enter Tryd.func31, Tryd.ntmps31
      go_wp2_with (go_at_call 47; refine (pspan_ok b s size locked _ _ hP h1 h2 p3 p4).mono ?_; rintro e w' ⟨rfl, hb'⟩; have hP' := hP.after hb'; have hP'' := Lib.hid hP'; obtain ⟨q0, q1, qs, qf, qn⟩ := hP')
      go_ret
      exact ⟨rfl, hP''.out, below_row hb' _⟩
    · by_cases c3 : locked < period
      · have hE : lockE size locked period clock = 24 := by rw [lockE, if_neg c1, if_neg c2, if_pos c3]
        have hN : lockN size locked period clock = locked := by rw [lockN, hE]; rfl
        rw [hE, hN]
        clear hE hN c1
        go_enter Tryd.func31, Tryd.ntmps31
        go_wp2_with (go_at_call 47; refine (pspan_ok b s size locked _ _ hP h1 h2 p3 p4).mono ?_; rintro e w' ⟨rfl, hb'⟩; have hP' := hP.after hb'; have hP'' := Lib.hid hP'; obtain ⟨q0, q1, qs, qf, qn⟩ := hP')
        go_ret
        exact ⟨rfl, hP''.out, below_row hb' _⟩
      · obtain rfl : period = locked := by omega
        by_cases c4 : clock ≤ toP size period
        · have hE : lockE size period period clock = 18 := by rw [lockE, if_neg c1, if_neg c2, if_neg c3, if_pos c4]
          have hN : lockN size period period clock = period := by rw [lockN, hE]; rfl
          rw [hE, hN]
          clear hE hN c1 c2 c3
          go_enter Tryd.func31, Tryd.ntmps31
          go_wp2_with (go_at_call 47; refine (pspan_ok b s size _ _ _ hP h1 h2 p3 p4).mono ?_; rintro e w' ⟨rfl, hb'⟩; have hP' := hP.after hb'; have hP'' := Lib.hid hP'; obtain ⟨q0, q1, qs, qf, qn⟩ := hP')
          go_ret
          exact ⟨rfl, hP''.out, below_row hb' _⟩
        · have hE : lockE size period period clock = 0 := by rw [lockE, if_neg c1, if_neg c2, if_neg c3, if_neg c4]
          have hN : lockN size period period clock = period + 1 := by rw [lockN, hE]; rfl
          rw [hE, hN]
          clear hE hN c1 c2 c3
          go_enter Tryd.func31, Tryd.ntmps31
          go_wp2_with (go_at_call 47; refine (pspan_ok b s size _ _ _ hP h1 h2 p3 p4).mono ?_; rintro e w' ⟨rfl, hb'⟩; have hP' := hP.after hb'; have hP'' := Lib.hid hP'; obtain ⟨q0, q1, qs, qf, qn⟩ := hP')
          go_ret
          exact ⟨rfl, hP''.out.set _, grown_trans (below_row hb' _) (grown_setCell _ b 1 _)⟩

theorem plock_any (b s : Nat) (size locked period clock : Int) (w : World) (hP : Per w b s size locked) (h1 : 1 ≤ size) (h2 : size ≤ 400) (h3 : 0 ≤ locked) (h4 : locked ≤ 100000) :
    Calls Tryd.prog 31 #[.pointer (some ⟨b, 0, none⟩), .int .i64 period, .int .i64 clock] w fun e w' =>
      e = .returned (.int .i64 (lockE size locked period clock)) ∧ Per w' b s size (lockN size locked period clock) ∧ Below b w w' :=
  (plock_grown b s size locked period clock w hP h1 h2 h3 h4).mono fun _ _ ⟨a1, a2, a3⟩ => ⟨a1, a2, grown_below a3 hP.lt.1⟩

theorem pnew_bad (size : Int) (w : World) (h : size < 1 ∨ 400 < size) :
    Calls Tryd.prog 13 #[.int .i64 size] w fun e w' => e = .returned (.tuple #[.pointer none, .int .i64 10]) ∧ w = w' := by
  rcases h with h | h
  · go_enter Tryd.func13, Tryd.ntmps13
    go_wp2
    go_ret2
    exact ⟨rfl, rfl⟩
  · have h' : ¬ size < 1 := by omega
    go_enter Tryd.func13, Tryd.ntmps13
    go_wp2
    go_ret2
    exact ⟨rfl, rfl⟩

/-- What a call that made a Periods object ends with. -/
def NewPer (size : Int) (w : World) (e : Ending) (w' : World) : Prop :=
  ∃ b s : Nat, e = .returned (.tuple #[.pointer (some ⟨b, 0, none⟩), .int .i64 0]) ∧ Per w' b s size 0 ∧ Below w.heap.size w w' ∧ w.heap.size ≤ b ∧ w.heap.size ≤ s

theorem pnew_ok (size : Int) (w : World) (h1 : 1 ≤ size) (h2 : size ≤ 400) :
    Calls Tryd.prog 13 #[.int .i64 size] w (NewPer size w) := by
  go_enter Tryd.func13, Tryd.ntmps13
  go_wp2
  go_ret2
  refine ⟨w.heap.size + 1, w.heap.size, rfl, ⟨?_, ?_, ?_, ?_, ?_⟩, ((Below.refl _ _).alloc (Nat.le_refl _) _).alloc (by simp) _, by omega, by omega⟩ <;> go_simp

end Go.Proofs.YtpinhomalmknjaaDoor
