/- A list of ints among the arguments, opened; amount.Sum, amount.Add; the turned list's sum. -/
import Derived.Test.YtncodoaphfeefaaAmtH
namespace Go.Proofs.Ytncodoaphfeefaa
open Go.ChangeShapes Go.WideShapes Go.ChangeAt Go.RowKit Go.Shelf Go.Lib
set_option linter.unusedVariables false
set_option linter.unusedSimpArgs false

theorem ints_arg {H : Type} {enc : TypeId × Value → H} {base : Nat} {W : World} {v : Value} {d : DataW H} {p : List MemPlace} (h : DataW.Trod enc Try.prog W 0 (fun _ => true) true 27 v d p) (ok : Value.okWide Try.prog W .any base 27 v) :
    ∃ (a : Option Addr) (cap : Nat) (xs : List Int), v = .slice a xs.length cap ∧ (∀ x ∈ xs, -9223372036854775808 ≤ x ∧ x ≤ 9223372036854775807) ∧ RowAt W a xs.length (numV xs) := by
  obtain ⟨a, len, cap, rfl⟩ := okWide_slice Try.underlying27 ok
  have hl := arg_leaves (d := 2) (ls := [27]) (by kernel_rfl) h
  obtain ⟨c0, cs0, e0, h0, hl⟩ := hl.cons
  obtain rfl := hl.nil
  simp only [Value.cells, List.cons.injEq, and_true] at e0
  subst e0
  have hf : flat Try.prog 2 3 = some [3] := by kernel_rfl
  rcases h0.slice Try.underlying27 hf with e1 | ⟨x, len', cap', e1, _, _, hE⟩
  · cases e1
    exact ⟨none, 0, [], rfl, fun x hx => by simp at hx, RowAt.nil _ _ _⟩
  · cases e1
    obtain ⟨f, hf1, hf2⟩ := elems_rows hE (by simp)
    obtain ⟨g, hg⟩ : ∃ g : Nat → Int, ∀ i, i < len → f i = [.int .i64 (g i)] ∧ -9223372036854775808 ≤ g i ∧ g i ≤ 9223372036854775807 := by
      have : ∀ i, ∃ z : Int, i < len → f i = [.int .i64 z] ∧ -9223372036854775808 ≤ z ∧ z ≤ 9223372036854775807 := fun i => by
        by_cases hi : i < len
        · obtain ⟨c1, cs1, e1, h1, hl1⟩ := (hf1 i hi).cons
          obtain rfl := hl1.nil
          obtain ⟨z, rfl, hz⟩ := h1.int Try.underlying3
          exact ⟨z, fun _ => ⟨e1, wf_bounds hz⟩⟩
        · exact ⟨0, fun h => absurd h hi⟩
      exact ⟨fun i => (this i).choose, fun i => (this i).choose_spec⟩
    have hlen : ((List.range len).map g).length = len := by simp
    refine ⟨some x, cap, (List.range len).map g, by rw [hlen], fun y hy => ?_, ?_⟩
    · obtain ⟨i, hi, rfl⟩ := List.mem_map.1 hy
      exact (hg i (List.mem_range.1 hi)).2
    · rw [hlen]
      intro h0
      obtain ⟨b, o, e, hc⟩ := hf2 h0
      refine ⟨b, o, e, fun i hi => ?_⟩
      have := hc i hi 0 (.int .i64 (g i)) (by rw [(hg i hi).1]; rfl)
      simp only [List.length_singleton, Nat.mul_one, Nat.add_zero] at this
      rw [this]
      simp [numV, List.getD_eq_getElem?_getD, hi]

theorem sum_fitV (a : Option Addr) (cap : Nat) (xs : List Int) (s h : Int) (w : World) (hx : RowAt w a xs.length (numV xs)) (hr : ∀ x ∈ xs, -9223372036854775808 ≤ x ∧ x ≤ 9223372036854775807) (hl : xs.length ≤ 1000000) (hs : fitV xs.sum = (s, h)) :
    Calls Try.prog 20 #[.slice a xs.length cap] w fun e w' => e = .returned (.tuple #[.int .i64 s, .int .i64 h]) ∧ Below w.heap.size w w' := by
  refine (sum_amount a cap xs w hx hr hl).mono ?_
  rintro e w' ⟨rfl, rfl⟩
  refine ⟨?_, Below.refl _ _⟩
  unfold sumA
  unfold fitV at hs
  by_cases hf : fitsI xs.sum = true
  · rw [if_pos hf] at hs ⊢
    cases hs
    rfl
  · rw [if_neg hf] at hs ⊢
    cases hs
    rfl
theorem sum_two (a b s h : Int) (ha : -9223372036854775808 ≤ a ∧ a ≤ 9223372036854775807) (hb : -9223372036854775808 ≤ b ∧ b ≤ 9223372036854775807) (hs : fitV (a + b) = (s, h)) (w : World) :
    Calls Try.prog 20 #[.slice (some ⟨w.heap.size, 0, none⟩) 2 2] (w.alloc (.cells #[.int .i64 a, .int .i64 b] 3)) fun e w' => e = .returned (.tuple #[.int .i64 s, .int .i64 h]) ∧ Below w.heap.size w w' := by
  have h1 : Below w.heap.size w (w.alloc (.cells #[.int .i64 a, .int .i64 b] 3)) := (Below.refl _ _).alloc (Nat.le_refl _) _
  have h2 := sum_fitV (some ⟨w.heap.size, 0, none⟩) 2 [a, b] s h _ (row_block (xs := [a, b]) (heap_alloc_new w (.cells #[.int .i64 a, .int .i64 b] 3))) (fun x hx => by simp at hx; rcases hx with rfl | rfl; exact ha; exact hb) (by simp) (by simpa using hs)
  refine h2.mono ?_
  rintro e w' ⟨rfl, hb⟩
  exact ⟨rfl, h1.trans (hb.mono h1.size)⟩
theorem amtadd_ok (a b s h : Int) (ha : -9223372036854775808 ≤ a ∧ a ≤ 9223372036854775807) (hb : -9223372036854775808 ≤ b ∧ b ≤ 9223372036854775807) (hs : fitV (a + b) = (s, h)) (w : World) :
    Calls Try.prog 22 #[.int .i64 a, .int .i64 b] w fun e w' => e = .returned (.tuple #[.int .i64 s, .int .i64 h]) ∧ Below w.heap.size w w' := by
  have H := Lib.hid (sum_two a b s h ha hb hs)
  clear ha hb hs
  go_enter Try.func22, Try.ntmps22
  go_wp2_with fail
  with_reducible refine (H.out _).mono ?_
  rintro e w1 ⟨rfl, b1⟩
  go_wp2_with fail
  go_ret2
  exact ⟨rfl, b1⟩
theorem mul_ok (a b s h : Int) (a1 : -9223372036854775808 ≤ a) (a2 : a ≤ 9223372036854775807) (b1 : -9223372036854775808 ≤ b) (b2 : b ≤ 9223372036854775807) (hs : fitV (a * b) = (s, h)) (w : World) :
    Calls Try.prog 23 #[.int .i64 a, .int .i64 b] w fun e w' => e = .returned (.tuple #[.int .i64 s, .int .i64 h]) ∧ Below w.heap.size w w' := by
  refine (amtmul_ok a b a1 a2 b1 b2 w).mono ?_
  rintro e w' ⟨rfl, n, rfl⟩
  rw [hs]
  exact ⟨rfl, below_draws _ _⟩

/-! ### A list turned -/
def turnL (xs : List Int) (s k : Nat) : List Int := (List.range k).map fun i => xs.getD ((s + i) % xs.length) 0
theorem turnL_succ (xs : List Int) (s k : Nat) : turnL xs s (k + 1) = turnL xs s k ++ [xs.getD ((s + k) % xs.length) 0] := by simp [turnL, List.range_succ]
theorem turnL_len (xs : List Int) (s k : Nat) : (turnL xs s k).length = k := by simp [turnL]
theorem turnL_drop {xs : List Int} {s : Nat} (h : s < xs.length) : turnL xs s (xs.length - s) = xs.drop s := by
  refine List.ext_getElem? fun i => ?_
  by_cases hi : i < xs.length - s
  · have h1 : (s + i) % xs.length = s + i := Nat.mod_eq_of_lt (by omega)
    simp [turnL, hi, h1, List.getElem?_drop, List.getD_eq_getElem?_getD, show s + i < xs.length by omega]
  · rw [List.getElem?_eq_none (by rw [turnL_len]; omega), List.getElem?_eq_none (by rw [List.length_drop]; omega)]
theorem turnL_full {xs : List Int} {s : Nat} (h : s < xs.length) : turnL xs s xs.length = xs.drop s ++ xs.take s := by
  have h1 : xs.length = (xs.length - s) + s := by omega
  rw [← turnL_drop h]
  have e : turnL xs s xs.length = turnL xs s ((xs.length - s) + s) := by rw [← h1]
  rw [e]
  unfold turnL
  rw [List.range_add, List.map_append, List.map_map]
  congr 1
  refine List.ext_getElem? fun i => ?_
  by_cases hi : i < s
  · have h2 : (s + (xs.length - s + i)) % xs.length = i := by
      rw [show s + (xs.length - s + i) = i + xs.length by omega, Nat.add_mod_right, Nat.mod_eq_of_lt (by omega)]
    simp [hi, h2, List.getD_eq_getElem?_getD, show i < xs.length by omega]
  · rw [List.getElem?_eq_none (by simp; omega), List.getElem?_eq_none (by rw [List.length_take]; omega)]
theorem turnL_sum {xs : List Int} {s : Nat} (h : s < xs.length) : (turnL xs s xs.length).sum = xs.sum := by
  have h1 : xs.sum = (xs.take s).sum + (xs.drop s).sum := by rw [← List.sum_append, List.take_append_drop]
  rw [turnL_full h, List.sum_append, h1, Int.add_comm]
theorem turnL_in {xs : List Int} (hr : ∀ x ∈ xs, -9223372036854775808 ≤ x ∧ x ≤ 9223372036854775807) (s k : Nat) : ∀ x ∈ turnL xs s k, -9223372036854775808 ≤ x ∧ x ≤ 9223372036854775807 := fun x hx => by
  obtain ⟨i, _, rfl⟩ := List.mem_map.1 hx
  rw [List.getD_eq_getElem?_getD]
  cases h : xs[(s + i) % xs.length]? with
  | none => exact ⟨by simp, by simp⟩
  | some y => exact hr _ (List.mem_of_getElem? h)

end Go.Proofs.Ytncodoaphfeefaa
