/- Package amount: the cuts' order; slices.SortStableFunc of few of them. -/
import Derived.Test.YtncodoaphfeefaaAmtB
import Derived.Test.YtncodoaphfeefaaGen
namespace Go.Proofs.Ytncodoaphfeefaa
open Go.RowKit Go.Shelf Go.Lib Go.Sort
set_option linter.unusedVariables false
set_option linter.unusedSimpArgs false

/-- A cut: where it is, and what was cut off. -/
abbrev Cut := Nat × Nat
def encC (x : Cut) : List Value := [.int .i64 (x.1 : Int), .int .u64 (x.2 : Int)]
/-- What the closure answers. -/
def cmpC (x y : Cut) : Int := if y.2 < x.2 then -1 else if x.2 < y.2 then 1 else 0

theorem nan_ok (x : Int) (w : World) : Calls Try.prog 44 #[.int .u64 x] w fun e w' => e = .returned (.bool false) ∧ w' = w := by
  go_enter Try.func44, Try.ntmps44
  go_wp2_with fail
  go_ret
  exact ⟨by simp, rfl⟩
set_option maxHeartbeats 1000000 in
theorem cmp64_ok (x y : Int) (w : World) : Calls Try.prog 37 #[.int .u64 x, .int .u64 y] w fun e w' => e = .returned (.int .i64 (if x < y then -1 else if y < x then 1 else 0)) ∧ w' = w := by
  obtain ⟨V, hV⟩ : ∃ V : Int, (if x < y then -1 else if y < x then 1 else 0) = V := ⟨_, rfl⟩
  rw [hV]
  rcases Int.lt_trichotomy x y with h | h | h
  · obtain rfl : -1 = V := by rw [← hV, if_pos h]
    clear hV
    go_enter Try.func37, Try.ntmps37
    go_wp2_with fail
    with_reducible refine (nan_ok _ _).mono ?_
    rintro e w1 ⟨rfl, rfl⟩
    go_wp2_with fail
    with_reducible refine (nan_ok _ _).mono ?_
    rintro e w1 ⟨rfl, rfl⟩
    go_wp2_with fail
    go_ret
    exact ⟨rfl, rfl⟩
  · subst h
    obtain rfl : 0 = V := by rw [← hV, if_neg (by omega), if_neg (by omega)]
    clear hV
    go_enter Try.func37, Try.ntmps37
    go_wp2_with fail
    with_reducible refine (nan_ok _ _).mono ?_
    rintro e w1 ⟨rfl, rfl⟩
    go_wp2_with fail
    with_reducible refine (nan_ok _ _).mono ?_
    rintro e w1 ⟨rfl, rfl⟩
    go_wp2_with fail
    go_ret
    exact ⟨rfl, rfl⟩
  · obtain rfl : 1 = V := by rw [← hV, if_neg (by omega), if_pos h]
    have h' : decide (x < y) = false := by simp; omega
    clear hV
    go_enter Try.func37, Try.ntmps37
    go_wp2_with fail
    with_reducible refine (nan_ok _ _).mono ?_
    rintro e w1 ⟨rfl, rfl⟩
    go_wp2_with fail
    with_reducible refine (nan_ok _ _).mono ?_
    rintro e w1 ⟨rfl, rfl⟩
    go_wp2_with fail
    go_ret
    exact ⟨rfl, rfl⟩

set_option maxHeartbeats 1000000 in
theorem closure_ok (x y : Cut) (W : World) : Calls Try.prog 36 #[.agg #[.int .i64 (x.1 : Int), .int .u64 (x.2 : Int)], .agg #[.int .i64 (y.1 : Int), .int .u64 (y.2 : Int)]] W fun e w' => e = .returned (.int .i64 (cmpC x y)) ∧ ∃ q os', w' = grow (W.drewN q) os' := by
  have hcon := fun W' => cmp64_ok (y.2 : Int) (x.2 : Int) W'
  have hv : (if (y.2 : Int) < (x.2 : Int) then (-1 : Int) else if (x.2 : Int) < (y.2 : Int) then 1 else 0) = cmpC x y := by
    unfold cmpC
    split <;> split <;> (try split) <;> (try split) <;> first | rfl | omega
  simp only [hv] at hcon
  have HC := Lib.hid hcon
  generalize cmpC x y = r at HC ⊢
  clear hcon hv
  go_enter Try.func36, Try.ntmps36
  go_wp2_with fail
  with_reducible refine (HC.out _).mono ?_
  rintro e w1 ⟨rfl, rfl⟩
  go_wp2_with fail
  go_ret
  exact ⟨rfl, 0, _, by rw [alloc_eq_grow, alloc_eq_grow, grow_grow]; rfl⟩
theorem cmpLays_ok (blk off size : Nat) (w : World) : CmpLays Try.prog 36 #[] encC 2 cmpC blk off size w := fun _ _ _ _ x y => closure_ok x y _

theorem insert_ok (blk cap a b : Nat) (d : Array Cut) (w : World) (hH : HoldsK encC 2 w blk 0 d) (hblk : blk < w.heap.size) (hab : a ≤ b) (hb : b ≤ d.size) (hsz : d.size < 4611686018427387904) :
    Calls Try.prog 46 #[.slice (some ⟨blk, 0, none⟩) d.size cap, .int .i64 a, .int .i64 b, .func (.func 36) #[] #[]] w fun e w' =>
      e = .returned (.tuple #[]) ∧ ∃ n os, w' = sortWorldK encC 2 w blk 0 n (Sort.insertionSort (ltOf cmpC) d a b) os := by
  have eg : ∀ args w, (callFunc 36 args).run Try.prog w = .ok (.enter 36 args) w := enters_of Try.func36 (by kernel_rfl) rfl
  exact AnyQ.insertionSortCmpFunc Try.ins46 2 Try.isAgg63 Try.sizeOf63 encC (fun _ => rfl) (fun x v hv => by simp [encC] at hv; rcases hv with rfl | rfl <;> rfl) cmpC 36 #[] blk 0 cap a b d w eg (cmpLays_ok blk 0 d.size w) hH hblk hab hb hsz

end Go.Proofs.Ytncodoaphfeefaa
