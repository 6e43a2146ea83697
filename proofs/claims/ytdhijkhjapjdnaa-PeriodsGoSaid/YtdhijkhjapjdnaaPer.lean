/- The functions of package periods: what each answers, as contracts over a world that holds a Periods object (a block of two cells, and the block of its spans). -/
import Derived.Test.YtdhijkhjapjdnaaRows
import Derived.WalkKit
import Derived.ProofKit
import Derived.Below
import Derived.Outline
import Derived.Lib.Hide
import Derived.WalkSmall
import Derived.RegionTactic
import Derived.BigRegion
import Derived.BigQuiet
import Derived.Deep.QuietTactic
import Derived.Deep.RegionHeld3
import Derived.Deep.DeepCutAuto
import Derived.Deep.DeepFit
namespace Go.Proofs.Ytdhijkhjapjdnaa
open Go.ChangeShapes Go.WideShapes Go.ChangeAt Go.RowKit

/-- A Periods object in block b, its spans in block s. -/
structure Per (w : World) (b s : Nat) (size locked : Int) : Prop where
  h0 : w.cell? ⟨b, 0, none⟩ = some (.pointer (some ⟨s, 0, none⟩))
  h1 : w.cell? ⟨b, 1, none⟩ = some (.int .i64 locked)
  hs : w.cell? ⟨s, 0, none⟩ = some (.int .i64 size)
  f1 : w.frozen? ⟨b, 1, none⟩ = false
  ne : b ≠ s

theorem Per.lt {w : World} {b s : Nat} {size locked : Int} (h : Per w b s size locked) : b < w.heap.size ∧ s < w.heap.size :=
  ⟨World.block_lt_of_cell? w _ h.h0, World.block_lt_of_cell? w _ h.hs⟩

theorem Per.below {w w' : World} {b s B : Nat} {size locked : Int} (h : Per w b s size locked) (hb : Below B w w') (h1 : b < B) (h2 : s < B) : Per w' b s size locked :=
  ⟨(hb.cell (p := ⟨b, 0, none⟩) h1).trans h.h0, (hb.cell (p := ⟨b, 1, none⟩) h1).trans h.h1, (hb.cell (p := ⟨s, 0, none⟩) h2).trans h.hs, (hb.frozen (p := ⟨b, 1, none⟩) h1).trans h.f1, h.ne⟩

theorem Per.after {w w' : World} {b s : Nat} {size locked : Int} (h : Per w b s size locked) (hb : Below w.heap.size w w') : Per w' b s size locked :=
  h.below hb h.lt.1 h.lt.2

theorem Per.drew {w : World} {b s : Nat} {size locked : Int} (h : Per w b s size locked) : Per w.drew b s size locked := h.below (B := w.heap.size) ((Below.refl _ _).drew) h.lt.1 h.lt.2

theorem Per.set {w : World} {b s : Nat} {size locked : Int} (h : Per w b s size locked) (l : Int) : Per (w.setCell ⟨b, 1, none⟩ (.int .i64 l)) b s size l :=
  ⟨(World.cell?_setCell_other w _ _ _ (by simp)).trans h.h0, World.cell?_setCell_same w _ _ h.h1, (World.cell?_setCell_other w _ _ _ (by simp)).trans h.hs, by rw [World.frozen?_setCell]; exact h.f1, h.ne⟩

/-- The last period. -/
def lastP (size : Int) : Int := 73048 / size

theorem spansOf (size day : Int) (w : World) (h1 : 1 ≤ size) (h3 : 0 ≤ day) (h4 : day ≤ 1000000) :
    Calls Try.prog 20 #[.agg #[.int .i64 size], .int .i64 day] w fun e w' => e = .returned (.int .i64 (day / size)) ∧ Below w.heap.size w w' := by
  go_enter Try.func20, Try.ntmps20
  go_wp2
  go_ret
  exact ⟨rfl, (Below.refl _ _).alloc (Nat.le_refl _) _⟩

theorem spansLast (size : Int) (w : World) (h1 : 1 ≤ size) :
    Calls Try.prog 22 #[.agg #[.int .i64 size]] w fun e w' => e = .returned (.int .i64 (lastP size)) ∧ Below w.heap.size w w' := by
  go_enter Try.func22, Try.ntmps22
  go_wp2_with (go_at_call 20; refine (spansOf _ _ _ (by omega) (by omega) (by omega)).mono ?_; rintro e w' ⟨rfl, hb'⟩)
  go_ret
  exact ⟨rfl, ((Below.refl _ _).alloc (Nat.le_refl _) _).trans (hb'.mono (by simp))⟩

theorem last_ok (b s : Nat) (size locked : Int) (w : World) (hP : Per w b s size locked) (h1 : 1 ≤ size) :
    Calls Try.prog 13 #[.pointer (some ⟨b, 0, none⟩)] w fun e w' => e = .returned (.int .i64 (lastP size)) ∧ Below w.heap.size w w' := by
  obtain ⟨q0, q1, qs, qf, qn⟩ := hP
  go_enter Try.func13, Try.ntmps13
  go_wp2_with (go_at_call 22; refine (spansLast _ _ (by omega)).mono ?_; rintro e w' ⟨rfl, hb'⟩)
  go_ret
  exact ⟨rfl, hb'⟩

theorem of_ok (b s : Nat) (size locked day : Int) (w : World) (hP : Per w b s size locked) (h1 : 1 ≤ size) (h3 : 0 ≤ day) (h4 : day ≤ 73048) :
    Calls Try.prog 11 #[.pointer (some ⟨b, 0, none⟩), .int .i64 day] w fun e w' => e = .returned (.tuple #[.int .i64 (day / size), .int .i64 0]) ∧ Below w.heap.size w w' := by
  obtain ⟨q0, q1, qs, qf, qn⟩ := hP
  go_enter Try.func11, Try.ntmps11
  go_wp2_with (go_at_call 20; refine (spansOf _ _ _ (by omega) (by omega) (by omega)).mono ?_; rintro e w' ⟨rfl, hb'⟩)
  go_ret2
  exact ⟨rfl, hb'⟩

theorem of_bad (b : Nat) (day : Int) (w : World) (h3 : day < 0 ∨ 73048 < day) :
    Calls Try.prog 11 #[.pointer (some ⟨b, 0, none⟩), .int .i64 day] w fun e w' => e = .returned (.tuple #[.int .i64 0, .int .i64 18]) ∧ Below w.heap.size w w' := by
  rcases h3 with h3 | h3
  · go_enter Try.func11, Try.ntmps11
    go_wp2
    go_ret2
    exact ⟨rfl, Below.refl _ _⟩
  · have h5 : ¬ day < 0 := by omega
    go_enter Try.func11, Try.ntmps11
    go_wp2
    go_ret2
    exact ⟨rfl, Below.refl _ _⟩

theorem check_ok (b s : Nat) (size locked period : Int) (w : World) (hP : Per w b s size locked) (h1 : 1 ≤ size) (h3 : 0 ≤ period) (h4 : period ≤ lastP size) :
    Calls Try.prog 21 #[.pointer (some ⟨b, 0, none⟩), .int .i64 period] w fun e w' => e = .returned (.int .i64 0) ∧ Below w.heap.size w w' := by
  go_enter Try.func21, Try.ntmps21
  go_wp2_with (go_at_call 13; refine (last_ok b s size locked _ hP (by omega)).mono ?_; rintro e w' ⟨rfl, hb'⟩)
  go_ret
  exact ⟨rfl, hb'⟩

theorem check_bad (b s : Nat) (size locked period : Int) (w : World) (hP : Per w b s size locked) (h1 : 1 ≤ size) (h3 : period < 0 ∨ lastP size < period) :
    Calls Try.prog 21 #[.pointer (some ⟨b, 0, none⟩), .int .i64 period] w fun e w' => e = .returned (.int .i64 10) ∧ Below w.heap.size w w' := by
  rcases h3 with h3 | h3
  · go_enter Try.func21, Try.ntmps21
    go_wp2
    go_ret
    exact ⟨rfl, Below.refl _ _⟩
  · by_cases h5 : period < 0
    · go_enter Try.func21, Try.ntmps21
      go_wp2
      go_ret
      exact ⟨rfl, Below.refl _ _⟩
    · go_enter Try.func21, Try.ntmps21
      go_wp2_with (go_at_call 13; refine (last_ok b s size locked _ hP (by omega)).mono ?_; rintro e w' ⟨rfl, hb'⟩)
      go_ret
      exact ⟨rfl, hb'⟩

/-- A period's last day. -/
def toP (size period : Int) : Int := if period * size + size - 1 ≤ 73048 then period * size + size - 1 else 73048

theorem mul_last (size period : Int) (h1 : 1 ≤ size) (h3 : 0 ≤ period) (h4 : period ≤ lastP size) : 0 ≤ period * size ∧ period * size ≤ 73048 := by
  unfold lastP at h4
  have a := Int.mul_nonneg h3 (show 0 ≤ size by omega)
  have b := Int.mul_le_mul_of_nonneg_right h4 (show 0 ≤ size by omega)
  have c := Int.ediv_mul_le 73048 (show size ≠ 0 by omega)
  exact ⟨a, by omega⟩

theorem span_ok (b s : Nat) (size locked period : Int) (w : World) (hP : Per w b s size locked) (h1 : 1 ≤ size) (h2 : size ≤ 400) (h3 : 0 ≤ period) (h4 : period ≤ lastP size) :
    Calls Try.prog 12 #[.pointer (some ⟨b, 0, none⟩), .int .i64 period] w fun e w' => e = .returned (.tuple #[.int .i64 (period * size), .int .i64 (toP size period), .int .i64 0]) ∧ Below w.heap.size w w' := by
  obtain ⟨m1, m2⟩ := mul_last size period h1 h3 h4
  have ht := toP.eq_1 size period
  have HT := Lib.hid ht
  clear ht
  by_cases hc : period * size + size - 1 ≤ 73048
  all_goals
    go_enter Try.func12, Try.ntmps12
    go_wp2_with (go_at_call 21; refine (check_ok b s size locked _ _ hP h1 h3 h4).mono ?_; rintro e w' ⟨rfl, hb'⟩; have hP' := hP.after hb'; obtain ⟨q0, q1, qs, qf, qn⟩ := hP')
    go_quiet (fail)
    go_wp2
    go_ret3
    rw [HT.out]
    first | rw [if_pos hc] | rw [if_neg (by omega)]
    exact ⟨rfl, below_drewN hb' _⟩

theorem span_bad (b s : Nat) (size locked period : Int) (w : World) (hP : Per w b s size locked) (h1 : 1 ≤ size) (h3 : period < 0 ∨ lastP size < period) :
    Calls Try.prog 12 #[.pointer (some ⟨b, 0, none⟩), .int .i64 period] w fun e w' => e = .returned (.tuple #[.int .i64 0, .int .i64 0, .int .i64 10]) ∧ Below w.heap.size w w' := by
  go_enter Try.func12, Try.ntmps12
  go_wp2_with (go_at_call 21; refine (check_bad b s size locked _ _ hP h1 h3).mono ?_; rintro e w' ⟨rfl, hb'⟩)
  go_ret3
  exact ⟨rfl, hb'⟩

theorem earliest_ok (b s : Nat) (size locked : Int) (w : World) (hP : Per w b s size locked) (h1 : 1 ≤ size) (h4 : locked ≤ lastP size) :
    Calls Try.prog 16 #[.pointer (some ⟨b, 0, none⟩)] w fun e w' => e = .returned (.tuple #[.int .i64 locked, .int .i64 0]) ∧ Below w.heap.size w w' := by
  go_enter Try.func16, Try.ntmps16
  go_wp2_with fail
  go_region_held3 (fun w' => w'.cell? ⟨b, 1, none⟩ = some (.int .i64 locked) ∧ Per w' b s size locked ∧ Below w.heap.size w w') (first | exact ⟨hP.drew.h1, hP.drew, (Below.refl _ _).drew⟩ | exact ⟨hP1.h1, hP1, (Below.refl _ _).drew.trans hb1⟩)
    (first | (go_at_call 13; refine (last_ok b s size locked _ hP.drew (by omega)).mono ?_; rintro e w1 ⟨rfl, hb1⟩; have hP1 := hP.drew.after hb1))
  have q1 := hP1.h1
  go_wp2
  go_ret2
  exact ⟨rfl, (Below.refl _ _).drew.trans hb1⟩

theorem earliest_full (b s : Nat) (size locked : Int) (w : World) (hP : Per w b s size locked) (h1 : 1 ≤ size) (h4 : lastP size < locked) :
    Calls Try.prog 16 #[.pointer (some ⟨b, 0, none⟩)] w fun e w' => e = .returned (.tuple #[.int .i64 0, .int .i64 21]) ∧ Below w.heap.size w w' := by
  go_enter Try.func16, Try.ntmps16
  go_wp2_with fail
  go_region_held3 (fun w' => w'.cell? ⟨b, 1, none⟩ = some (.int .i64 locked) ∧ Per w' b s size locked ∧ Below w.heap.size w w') (first | exact ⟨hP.drew.h1, hP.drew, (Below.refl _ _).drew⟩ | exact ⟨hP1.h1, hP1, (Below.refl _ _).drew.trans hb1⟩)
    (first | (go_at_call 13; refine (last_ok b s size locked _ hP.drew (by omega)).mono ?_; rintro e w1 ⟨rfl, hb1⟩; have hP1 := hP.drew.after hb1))
  have q1 := hP1.h1
  go_wp2
  go_ret2
  exact ⟨rfl, (Below.refl _ _).drew.trans hb1⟩

theorem locked_ok (b s : Nat) (size locked period : Int) (w : World) (hP : Per w b s size locked) (h1 : 1 ≤ size) (h3 : 0 ≤ period) (h4 : period ≤ lastP size) :
    Calls Try.prog 17 #[.pointer (some ⟨b, 0, none⟩), .int .i64 period] w fun e w' => e = .returned (.bool (decide (period < locked))) ∧ Below w.heap.size w w' := by
  go_enter Try.func17, Try.ntmps17
  go_wp2_with (go_at_call 21; refine (check_ok b s size locked _ _ hP h1 h3 h4).mono ?_; rintro e w' ⟨rfl, hb'⟩; have hP' := hP.after hb'; obtain ⟨q0, q1, qs, qf, qn⟩ := hP')
  go_ret
  exact ⟨rfl, hb'⟩

theorem locked_bad (b s : Nat) (size locked period : Int) (w : World) (hP : Per w b s size locked) (h1 : 1 ≤ size) (h3 : period < 0 ∨ lastP size < period) :
    Calls Try.prog 17 #[.pointer (some ⟨b, 0, none⟩), .int .i64 period] w fun e w' => e = .returned (.bool false) ∧ Below w.heap.size w w' := by
  go_enter Try.func17, Try.ntmps17
  go_wp2_with (go_at_call 21; refine (check_bad b s size locked _ _ hP h1 h3).mono ?_; rintro e w' ⟨rfl, hb'⟩)
  go_ret
  exact ⟨rfl, hb'⟩

/-- What Lock answers. -/
def lockE (size locked period clock : Int) : Int :=
  if period < 0 ∨ lastP size < period then 10 else if period < locked then 19 else if locked < period then 24 else if clock ≤ toP size period then 18 else 0
/-- How many are locked behind it. -/
def lockN (size locked period clock : Int) : Int := if lockE size locked period clock = 0 then locked + 1 else locked

theorem below_row {w w' : World} (h : Below w.heap.size w w') (row : Option Nat) : w.grownBy w' row := ⟨h.os, h.tape, h.output, h.size, fun k hk _ => h.block k hk⟩
theorem grown_trans {a b c : World} {row : Option Nat} (h : a.grownBy b row) (k : b.grownBy c row) : a.grownBy c row :=
  ⟨k.os.trans h.os, k.tape.trans h.tape, k.output.trans h.output, Nat.le_trans h.size k.size, fun i hi hn => (k.block i (Nat.lt_of_lt_of_le hi h.size) hn).trans (h.block i hi hn)⟩
theorem grown_setCell (w : World) (b o : Nat) (v : Value) : w.grownBy (w.setCell ⟨b, o, none⟩ v) (some b) :=
  ⟨rfl, rfl, rfl, by simp [World.setCell], fun k _ hn => Below.heap_setCell _ _ _ _ (fun e => hn (by rw [e]))⟩
theorem grown_below {w w' : World} {b : Nat} (h : w.grownBy w' (some b)) (hb : b < w.heap.size) : Below b w w' :=
  ⟨h.os, h.tape, h.output, h.size, fun k hk => h.block k (by omega) (by simp; omega)⟩
theorem grown_cell {w w' : World} {row : Option Nat} {a : Addr} {v : Value} (h : w.grownBy w' row) (hc : w.cell? a = some v) (hn : row ≠ some a.block) : w'.cell? a = some v := by
  have hl := World.block_lt_of_cell? w _ hc
  exact (World.cell?_of_block (h.block a.block hl (fun e => hn e.symm))).trans hc
theorem grown_frozen {w w' : World} {row : Option Nat} {a : Addr} {v : Value} {f : Bool} (h : w.grownBy w' row) (hc : w.cell? a = some v) (hf : w.frozen? a = f) (hn : row ≠ some a.block) : w'.frozen? a = f := by
  have hl := World.block_lt_of_cell? w _ hc
  exact (World.frozen?_of_block (h.block a.block hl (fun e => hn e.symm))).trans hf
theorem Per.grown {w w' : World} {b s : Nat} {size locked : Int} {row : Option Nat} (h : Per w b s size locked) (hg : w.grownBy w' row) (h1 : row ≠ some b) (h2 : row ≠ some s) : Per w' b s size locked :=
  ⟨grown_cell hg h.h0 h1, grown_cell hg h.h1 h1, grown_cell hg h.hs h2, grown_frozen hg h.h1 h.f1 h1, h.ne⟩

theorem lock_grown (b s : Nat) (size locked period clock : Int) (w : World) (hP : Per w b s size locked) (h1 : 1 ≤ size) (h2 : size ≤ 400) (h3 : 0 ≤ locked) (h4 : locked ≤ 100000) :
    Calls Try.prog 14 #[.pointer (some ⟨b, 0, none⟩), .int .i64 period, .int .i64 clock] w fun e w' =>
      e = .returned (.int .i64 (lockE size locked period clock)) ∧ Per w' b s size (lockN size locked period clock) ∧ w.grownBy w' (some b) := by
  have hlt := hP.lt
  by_cases c1 : period < 0 ∨ lastP size < period
  · have hE : lockE size locked period clock = 10 := by rw [lockE, if_pos c1]
    have hN : lockN size locked period clock = locked := by rw [lockN, hE]; rfl
    rw [hE, hN]
    clear hE hN
    go_enter Try.func14, Try.ntmps14
    go_wp2_with (go_at_call 12; refine (span_bad b s size locked _ _ hP h1 c1).mono ?_; rintro e w' ⟨rfl, hb'⟩)
    go_ret
    exact ⟨rfl, hP.after hb', below_row hb' _⟩
  · have c1' : 0 ≤ period ∧ period ≤ lastP size := by omega
    obtain ⟨p3, p4⟩ := c1'
    by_cases c2 : period < locked
    · have hE : lockE size locked period clock = 19 := by rw [lockE, if_neg c1, if_pos c2]
      have hN : lockN size locked period clock = locked := by rw [lockN, hE]; rfl
      rw [hE, hN]
      clear hE hN c1
      go_enter Try.func14, Try.ntmps14
      go_wp2_with (go_at_call 12; refine (span_ok b s size locked _ _ hP h1 h2 p3 p4).mono ?_; rintro e w' ⟨rfl, hb'⟩; have hP' := hP.after hb'; have hP'' := Lib.hid hP'; obtain ⟨q0, q1, qs, qf, qn⟩ := hP')
      go_ret
      exact ⟨rfl, hP''.out, below_row hb' _⟩
    · by_cases c3 : locked < period
      · have hE : lockE size locked period clock = 24 := by rw [lockE, if_neg c1, if_neg c2, if_pos c3]
        have hN : lockN size locked period clock = locked := by rw [lockN, hE]; rfl
        rw [hE, hN]
        clear hE hN c1
        go_enter Try.func14, Try.ntmps14
        go_wp2_with (go_at_call 12; refine (span_ok b s size locked _ _ hP h1 h2 p3 p4).mono ?_; rintro e w' ⟨rfl, hb'⟩; have hP' := hP.after hb'; have hP'' := Lib.hid hP'; obtain ⟨q0, q1, qs, qf, qn⟩ := hP')
        go_ret
        exact ⟨rfl, hP''.out, below_row hb' _⟩
      · obtain rfl : period = locked := by omega
        by_cases c4 : clock ≤ toP size period
        · have hE : lockE size period period clock = 18 := by rw [lockE, if_neg c1, if_neg c2, if_neg c3, if_pos c4]
          have hN : lockN size period period clock = period := by rw [lockN, hE]; rfl
          rw [hE, hN]
          clear hE hN c1 c2 c3
          go_enter Try.func14, Try.ntmps14
          go_wp2_with (go_at_call 12; refine (span_ok b s size _ _ _ hP h1 h2 p3 p4).mono ?_; rintro e w' ⟨rfl, hb'⟩; have hP' := hP.after hb'; have hP'' := Lib.hid hP'; obtain ⟨q0, q1, qs, qf, qn⟩ := hP')
          go_ret
          exact ⟨rfl, hP''.out, below_row hb' _⟩
        · have hE : lockE size period period clock = 0 := by rw [lockE, if_neg c1, if_neg c2, if_neg c3, if_neg c4]
          have hN : lockN size period period clock = period + 1 := by rw [lockN, hE]; rfl
          rw [hE, hN]
          clear hE hN c1 c2 c3
          go_enter Try.func14, Try.ntmps14
          go_wp2_with (go_at_call 12; refine (span_ok b s size _ _ _ hP h1 h2 p3 p4).mono ?_; rintro e w' ⟨rfl, hb'⟩; have hP' := hP.after hb'; have hP'' := Lib.hid hP'; obtain ⟨q0, q1, qs, qf, qn⟩ := hP')
          go_ret
          exact ⟨rfl, hP''.out.set _, grown_trans (below_row hb' _) (grown_setCell _ b 1 _)⟩

theorem lock_any (b s : Nat) (size locked period clock : Int) (w : World) (hP : Per w b s size locked) (h1 : 1 ≤ size) (h2 : size ≤ 400) (h3 : 0 ≤ locked) (h4 : locked ≤ 100000) :
    Calls Try.prog 14 #[.pointer (some ⟨b, 0, none⟩), .int .i64 period, .int .i64 clock] w fun e w' =>
      e = .returned (.int .i64 (lockE size locked period clock)) ∧ Per w' b s size (lockN size locked period clock) ∧ Below b w w' :=
  (lock_grown b s size locked period clock w hP h1 h2 h3 h4).mono fun _ _ ⟨a1, a2, a3⟩ => ⟨a1, a2, grown_below a3 hP.lt.1⟩

/-- What Book answers. -/
def bookP (size locked day : Int) : Int := if day / size < locked then locked else day / size

theorem book_ok (b s : Nat) (size locked day : Int) (w : World) (hP : Per w b s size locked) (h1 : 1 ≤ size) (h3 : 0 ≤ day) (h4 : day ≤ 73048) (h5 : locked ≤ lastP size) :
    Calls Try.prog 15 #[.pointer (some ⟨b, 0, none⟩), .int .i64 day] w fun e w' => e = .returned (.tuple #[.int .i64 (bookP size locked day), .int .i64 0]) ∧ Below w.heap.size w w' := by
  have hB := Lib.hid (bookP.eq_1 size locked day)
  by_cases c : day / size < locked
  all_goals
    go_enter Try.func15, Try.ntmps15
    go_wp2_with (first
      | (go_at_call 11; refine (of_ok b s size locked _ _ hP h1 h3 h4).mono ?_; rintro e w1 ⟨rfl, hb1⟩; have hP1 := hP.after hb1)
      | (go_at_call 16; refine (earliest_ok b s size locked _ hP1 h1 h5).mono ?_; rintro e w2 ⟨rfl, hb2⟩))
    go_ret2
    rw [hB.out]
    first | rw [if_pos c] | rw [if_neg (by omega)]
    exact ⟨rfl, hb1.trans (hb2.mono hb1.size)⟩

theorem book_full (b s : Nat) (size locked day : Int) (w : World) (hP : Per w b s size locked) (h1 : 1 ≤ size) (h3 : 0 ≤ day) (h4 : day ≤ 73048) (h5 : lastP size < locked) :
    Calls Try.prog 15 #[.pointer (some ⟨b, 0, none⟩), .int .i64 day] w fun e w' => e = .returned (.tuple #[.int .i64 0, .int .i64 21]) ∧ Below w.heap.size w w' := by
  go_enter Try.func15, Try.ntmps15
  go_wp2_with (first
    | (go_at_call 11; refine (of_ok b s size locked _ _ hP h1 h3 h4).mono ?_; rintro e w1 ⟨rfl, hb1⟩; have hP1 := hP.after hb1)
    | (go_at_call 16; refine (earliest_full b s size locked _ hP1 h1 h5).mono ?_; rintro e w2 ⟨rfl, hb2⟩))
  go_ret2
  exact ⟨rfl, hb1.trans (hb2.mono hb1.size)⟩

theorem book_bad (b : Nat) (day : Int) (w : World) (h3 : day < 0 ∨ 73048 < day) :
    Calls Try.prog 15 #[.pointer (some ⟨b, 0, none⟩), .int .i64 day] w fun e w' => e = .returned (.tuple #[.int .i64 0, .int .i64 18]) ∧ Below w.heap.size w w' := by
  go_enter Try.func15, Try.ntmps15
  go_wp2_with (go_at_call 11; refine (of_bad b _ _ h3).mono ?_; rintro e w1 ⟨rfl, hb1⟩)
  go_ret2
  exact ⟨rfl, hb1⟩

theorem new_bad (size : Int) (w : World) (h : size < 1 ∨ 400 < size) :
    Calls Try.prog 9 #[.int .i64 size] w fun e w' => e = .returned (.tuple #[.pointer none, .int .i64 10]) ∧ w = w' := by
  rcases h with h | h
  · go_enter Try.func9, Try.ntmps9
    go_wp2
    go_ret2
    exact ⟨rfl, rfl⟩
  · have h' : ¬ size < 1 := by omega
    go_enter Try.func9, Try.ntmps9
    go_wp2
    go_ret2
    exact ⟨rfl, rfl⟩

/-- What a call that made a Periods object ends with. -/
def NewPer (size : Int) (w : World) (e : Ending) (w' : World) : Prop :=
  ∃ b s : Nat, e = .returned (.tuple #[.pointer (some ⟨b, 0, none⟩), .int .i64 0]) ∧ Per w' b s size 0 ∧ Below w.heap.size w w' ∧ w.heap.size ≤ b ∧ w.heap.size ≤ s

theorem new_ok (size : Int) (w : World) (h1 : 1 ≤ size) (h2 : size ≤ 400) :
    Calls Try.prog 9 #[.int .i64 size] w (NewPer size w) := by
  go_enter Try.func9, Try.ntmps9
  go_wp2
  go_ret2
  refine ⟨w.heap.size + 1, w.heap.size, rfl, ⟨?_, ?_, ?_, ?_, ?_⟩, ((Below.refl _ _).alloc (Nat.le_refl _) _).alloc (by simp) _, by omega, by omega⟩ <;> go_simp

theorem awake_ok (w : World) : Calls Try.prog 10 #[] w fun e w' => e = .returned (.bool true) ∧ Below w.heap.size w w' := by
  go_enter Try.func10, Try.ntmps10
  go_wp2_with fail
  refine (new_ok _ _ (by omega) (by omega)).mono ?_
  rintro e w1 ⟨b, s, rfl, hP1, hb1, g1, g2⟩
  go_wp2_with fail
  refine (of_ok b s 30 0 _ _ hP1 (by omega) (by omega) (by omega)).mono ?_
  rintro e w2 ⟨rfl, hb2⟩
  have hP2 := hP1.after hb2
  go_wp2_with fail
  refine (lock_any b s 30 0 _ _ _ hP2 (by omega) (by omega) (by omega) (by omega)).mono ?_
  rintro e w3 ⟨rfl, hP3, hb3⟩
  rw [show lockE 30 0 1 100 = 24 from by decide]
  rw [show lockN 30 0 1 100 = 0 from by decide] at hP3
  go_wp2_with fail
  refine (lock_any b s 30 0 _ _ _ hP3 (by omega) (by omega) (by omega) (by omega)).mono ?_
  rintro e w4 ⟨rfl, hP4, hb4⟩
  rw [show lockE 30 0 0 30 = 0 from by decide]
  rw [show lockN 30 0 0 30 = 1 from by decide] at hP4
  go_wp2_with fail
  refine (lock_any b s 30 1 _ _ _ hP4 (by omega) (by omega) (by omega) (by omega)).mono ?_
  rintro e w5 ⟨rfl, hP5, hb5⟩
  rw [show lockE 30 1 0 40 = 19 from by decide]
  rw [show lockN 30 1 0 40 = 1 from by decide] at hP5
  go_wp2_with fail
  refine (book_ok b s 30 1 _ _ hP5 (by omega) (by omega) (by omega) (by decide)).mono ?_
  rintro e w6 ⟨rfl, hb6⟩
  rw [show bookP 30 1 5 = 1 from by decide]
  go_wp2_with fail
  go_ret
  have z1 := hb1.size
  have z2 := hb2.size
  have z3 := hb3.size
  have z4 := hb4.size
  have z5 := hb5.size
  exact ⟨rfl, hb1.trans ((hb2.mono (by omega)).trans ((hb3.mono (by omega)).trans ((hb4.mono (by omega)).trans ((hb5.mono (by omega)).trans (hb6.mono (by omega))))))⟩

end Go.Proofs.Ytdhijkhjapjdnaa
