/- Sums of ints, plainly (in the place of the reference's Sum). -/
import Derived.Test.YtmjgcenhgpkhiaaDoorRefA
import Derived.RegionTactic
import Derived.RegionCalls
import Derived.Deep.RegionWith
import Derived.Deep.DeepCutAuto
namespace Go.Proofs.YtmjgcenhgpkhiaaDoor
open Go.RowKit
set_option linter.unusedVariables false
set_option maxRecDepth 100000
set_option linter.unusedSimpArgs false


theorem set_far {w : World} {p a : Addr} {u v : Value} (h : w.cell? p = some v) (hn : p.block ≠ a.block) : (w.setCell a u).cell? p = some v :=
  (World.cell?_setCell_other w _ _ _ (fun e => hn (by rw [e]))).trans h
/-- A list of numbers, as cells hold it. -/
def numV (xs : List Int) (i : Nat) : Value := .int .i64 (xs.getD i 0)

theorem sum_take_succ (xs : List Int) (k : Nat) (h : k < xs.length) : (xs.take (k + 1)).sum = (xs.take k).sum + xs.getD k 0 := by
  rw [List.take_succ_eq_append_getElem h, List.sum_append]
  simp [List.getD_eq_getElem?_getD, List.getElem?_eq_getElem h]
theorem sum_abs (xs : List Int) (hr : ∀ x ∈ xs, -9223372036854775808 ≤ x ∧ x ≤ 9223372036854775807) : -(9223372036854775808 * (xs.length : Int)) ≤ xs.sum ∧ xs.sum ≤ 9223372036854775808 * (xs.length : Int) := by
  induction xs with
  | nil => simp
  | cons x xs ih =>
    have h1 := hr x (by simp)
    have h2 := ih (fun y hy => hr y (by simp [hy]))
    simp only [List.sum_cons, List.length_cons]
    omega
theorem sum_bits (xs : List Int) (hr : ∀ x ∈ xs, -9223372036854775808 ≤ x ∧ x ≤ 9223372036854775807) (hl : xs.length ≤ 1000000) : blen xs.sum.natAbs ≤ 5000 := by
  have h := sum_abs xs hr
  have h1 : xs.sum.natAbs < 2 ^ 100 := by
    have : (2 : Nat) ^ 100 = 1267650600228229401496703205376 := by decide
    rw [this]; omega
  have := blen_le.2 h1
  omega


end Go.Proofs.YtmjgcenhgpkhiaaDoor
