/- amount.Split, plainly; and the worlds that a sort of cuts leaves. -/
import Derived.Test.YtncodoaphfeefaaAmtD
import Derived.Test.YtncodoaphfeefaaASum
namespace Go.Proofs.Ytncodoaphfeefaa
open Go.RowKit Go.Shelf Go.Lib Go.Sort
set_option linter.unusedVariables false
set_option linter.unusedSimpArgs false

/-! ### Plain -/
section
variable (T S : Nat) (ws : List Int)
def qW (i : Nat) : Nat := T * (ws.getD i 0).toNat / S
def rW (i : Nat) : Nat := T * (ws.getD i 0).toNat % S
def sumQ (k : Nat) : Nat := ((List.range k).map (qW T S ws)).sum
def baseL (k : Nat) : List Int := (List.range k).map fun i => (qW T S ws i : Int)
def cutsL (k : Nat) : List Cut := (List.range k).map fun i => (i, rW T S ws i)
def cutCells (k : Nat) : List Value := ((List.range k).map fun i => encC (i, rW T S ws i)).flatten
end
theorem sumQ_succ (T S : Nat) (ws : List Int) (k : Nat) : sumQ T S ws (k + 1) = sumQ T S ws k + qW T S ws k := by simp [sumQ, List.range_succ]
theorem baseL_succ (T S : Nat) (ws : List Int) (k : Nat) : baseL T S ws (k + 1) = baseL T S ws k ++ [(qW T S ws k : Int)] := by simp [baseL, List.range_succ]
theorem cutCells_succ (T S : Nat) (ws : List Int) (k : Nat) : cutCells T S ws (k + 1) = cutCells T S ws k ++ encC (k, rW T S ws k) := by simp [cutCells, List.range_succ]
theorem baseL_len (T S : Nat) (ws : List Int) (k : Nat) : (baseL T S ws k).length = k := by simp [baseL]
theorem cutsL_len (T S : Nat) (ws : List Int) (k : Nat) : (cutsL T S ws k).length = k := by simp [cutsL]
/-- The weights up to a place. -/
def sumW (ws : List Int) (k : Nat) : Nat := ((List.range k).map fun i => (ws.getD i 0).toNat).sum
theorem sumW_succ (ws : List Int) (k : Nat) : sumW ws (k + 1) = sumW ws k + (ws.getD k 0).toNat := by simp [sumW, List.range_succ]
theorem sumW_mono (ws : List Int) (k : Nat) : ∀ m, sumW ws k ≤ sumW ws (k + m)
  | 0 => Nat.le_refl _
  | m + 1 => by rw [← Nat.add_assoc, sumW_succ]; have := sumW_mono ws k m; omega
theorem sumW_take (ws : List Int) (h : ∀ w ∈ ws, 0 ≤ w) : ∀ k, k ≤ ws.length → (sumW ws k : Int) = (ws.take k).sum
  | 0, _ => by simp [sumW]
  | k + 1, hk => by
    rw [sumW_succ, sum_take_succ ws k (by omega), ← sumW_take ws h k (by omega)]
    have : 0 ≤ ws.getD k 0 := h _ (by rw [List.getD_eq_getElem?_getD, List.getElem?_eq_getElem (by omega)]; exact List.getElem_mem _)
    omega
theorem sumW_all {ws : List Int} (h : ∀ w ∈ ws, 0 ≤ w) : (sumW ws ws.length : Int) = ws.sum := by
  have := sumW_take ws h ws.length (Nat.le_refl _)
  rwa [List.take_length] at this
theorem sumQ_le (T S : Nat) (ws : List Int) : ∀ k, S * sumQ T S ws k ≤ T * sumW ws k
  | 0 => by simp [sumQ, sumW]
  | k + 1 => by
    rw [sumQ_succ, sumW_succ, Nat.mul_add, Nat.mul_add]
    have h1 := sumQ_le T S ws k
    have h2 : S * qW T S ws k ≤ T * (ws.getD k 0).toNat := by unfold qW; exact Nat.mul_div_le _ _
    omega
theorem sumQ_T {T S : Nat} {ws : List Int} {k n : Nat} (hS : 0 < S) (hn : sumW ws n = S) (hk : k ≤ n) : sumQ T S ws k ≤ T := by
  have h1 := sumQ_le T S ws k
  have h2 := sumW_mono ws k (n - k)
  rw [show k + (n - k) = n by omega, hn] at h2
  have h3 : T * sumW ws k ≤ T * S := Nat.mul_le_mul_left _ h2
  rw [Nat.mul_comm T S] at h3
  exact Nat.le_of_mul_le_mul_left (Nat.le_trans h1 h3) hS
theorem qW_le {T S : Nat} {ws : List Int} {k n : Nat} (hS : 0 < S) (hn : sumW ws n = S) (hk : k < n) : qW T S ws k ≤ T - sumQ T S ws k ∧ sumQ T S ws (k + 1) ≤ T := by
  have h := sumQ_T (T := T) hS hn (show k + 1 ≤ n by omega)
  have h' := h
  rw [sumQ_succ] at h
  omega
theorem qW_one {T S : Nat} {ws : List Int} {n : Nat} : ∀ k, k ≤ n → ∀ i, i < k → qW T S ws i ≤ sumQ T S ws k
  | 0, _, i, h => by omega
  | k + 1, hk, i, h => by
    rw [sumQ_succ]
    rcases Nat.lt_or_ge i k with g | g
    · have := qW_one (T := T) (S := S) (ws := ws) (n := n) k (by omega) i g; omega
    · rw [show i = k by omega]; omega
theorem weight_le {ws : List Int} {S i n : Nat} (hn : sumW ws n = S) (hi : i < n) : (ws.getD i 0).toNat ≤ S := by
  have h2 := sumW_mono ws (i + 1) (n - (i + 1))
  rw [show i + 1 + (n - (i + 1)) = n by omega, hn, sumW_succ] at h2
  omega

/-- Whether a place has a gift among the first k cuts. -/
def gift (d : Array Cut) (k i : Nat) : Bool := (d.toList.take k).any fun c => c.1 == i
def outG (T S : Nat) (ws : List Int) (d : Array Cut) (k n : Nat) : List Int := (List.range n).map fun i => (qW T S ws i : Int) + (if gift d k i = true then 1 else 0)
theorem outG_len (T S : Nat) (ws : List Int) (d : Array Cut) (k n : Nat) : (outG T S ws d k n).length = n := by simp [outG]
theorem outG_zero (T S : Nat) (ws : List Int) (d : Array Cut) (n : Nat) : outG T S ws d 0 n = baseL T S ws n := by simp [outG, baseL, gift]
theorem outG_get (T S : Nat) (ws : List Int) (d : Array Cut) (k n i : Nat) (h : i < n) : (outG T S ws d k n).getD i 0 = (qW T S ws i : Int) + (if gift d k i = true then 1 else 0) := by
  simp [outG, List.getD_eq_getElem?_getD, h]
theorem gift_succ (d : Array Cut) (k i : Nat) (h : k < d.size) : gift d (k + 1) i = (gift d k i || (d[k]!).1 == i) := by
  unfold gift
  rw [List.take_succ_eq_append_getElem (by simpa using h), List.any_append]
  simp [h]
theorem outG_step (T S : Nat) (ws : List Int) (d : Array Cut) (k n : Nat) (h : k < d.size) (hi : (d[k]!).1 < n) (hg : gift d k (d[k]!).1 = false) :
    (outG T S ws d k n).set (d[k]!).1 ((outG T S ws d k n).getD (d[k]!).1 0 + 1) = outG T S ws d (k + 1) n := by
  rw [outG_get _ _ _ _ _ _ _ hi, hg]
  refine List.ext_getElem (by simp [outG_len]) fun i h1 h2 => ?_
  rw [outG_len] at h2
  have e : ∀ m, (outG T S ws d m n)[i]'(by rw [outG_len]; exact h2) = (qW T S ws i : Int) + (if gift d m i = true then 1 else 0) := fun m => by simp [outG]
  rw [List.getElem_set, e (k + 1), gift_succ d k i h]
  by_cases hx : (d[k]!).1 = i
  · rw [if_pos hx, hx]
    simp
  · rw [if_neg hx, e k]
    have : ((d[k]!).1 == i) = false := by simp [hx]
    rw [this, Bool.or_false]
/-- What is in order bears each place once. -/
theorem sorted_at {T S : Nat} {ws : List Int} {n : Nat} {d' : Array Cut} (h : SortedOf (cutsL T S ws n).toArray d') : d'.size = n ∧ ∀ k, k < n → (d'[k]!).1 < n ∧ (d'[k]!).2 = rW T S ws (d'[k]!).1 ∧ gift d' k (d'[k]!).1 = false := by
  have hs : d'.size = n := by rw [h.size]; simp [cutsL_len]
  have hmem : ∀ k, k < n → (d'[k]!).1 < n ∧ (d'[k]!).2 = rW T S ws (d'[k]!).1 := fun k hk => by
    have h1 : d'[k]! ∈ d'.toList := by
      rw [getElem!_pos d' k (by omega)]
      exact Array.getElem_mem_toList (by omega)
    have h2 := h.perm.mem_iff.1 h1
    simp only [cutsL, List.mem_map, List.mem_range] at h2
    obtain ⟨i, hi, e⟩ := h2
    rw [← e]
    exact ⟨hi, rfl⟩
  refine ⟨hs, fun k hk => ⟨(hmem k hk).1, (hmem k hk).2, ?_⟩⟩
  unfold gift
  rw [List.any_eq_false]
  intro c hc hx
  obtain ⟨j, hj, e⟩ := List.mem_iff_getElem.1 hc
  have hjk : j < k := by
    rw [List.length_take] at hj
    omega
  have e2 : d'[j]! = c := by
    rw [getElem!_pos d' j (by omega), ← e]
    simp
  have h3 := h.rises j k hjk (by omega)
  rw [e2] at h3
  have h4 := (hmem j (by omega)).2
  rw [e2] at h4
  have h5 := (hmem k hk).2
  have h6 : c.1 = (d'[k]!).1 := by simpa using hx
  unfold lexC at h3
  rw [h4, h5, h6] at h3
  omega

/-- The parts of an amount; d: its cuts in order. -/
def splitL (total : Int) (T S : Nat) (ws : List Int) (d : Array Cut) (n : Nat) : List Int :=
  (outG T S ws d (min (T - sumQ T S ws n) n) n).map fun x => if total < 0 then -x else x

/-! ### Memory -/
theorem grownBy_sortedK {w : World} {g m : Nat} {d : Array Cut} {os : Array Obj} : w.grownBy (sortWorldK encC 2 w g 0 m d os) (some g) := by
  unfold sortWorldK putRowK
  refine ⟨rfl, rfl, rfl, by simp, fun k hk hne => ?_⟩
  rw [heap_grow_old _ _ (by simpa using hk)]
  have : g ≠ k := fun e => hne (by rw [e])
  simp [putRow, mapBlock, Sort.ahead, Array.getElem?_modify, this]
def CutsAt (w : World) (g : Nat) (d : Array Cut) : Prop := ∀ i, i < d.size → w.cell? ⟨g, i * 2, none⟩ = some (.int .i64 ((d[i]!).1 : Int)) ∧ w.cell? ⟨g, i * 2 + 1, none⟩ = some (.int .u64 ((d[i]!).2 : Int))
theorem CutsAt.grown {w w' : World} {g : Nat} {d : Array Cut} {row : Option Nat} (h : CutsAt w g d) (hg : w.grownBy w' row) (hr : row ≠ some g) : CutsAt w' g d := fun i hi => ⟨grown_cell hg (h i hi).1 hr, grown_cell hg (h i hi).2 hr⟩
theorem CutsAt.of {w : World} {g : Nat} {d : Array Cut} (h : HoldsK encC 2 w g 0 d) : CutsAt w g d := fun i hi => by
  have h0 := (h.cell (c := 0) hi (by omega)).1
  have h1 := (h.cell (c := 1) hi (by omega)).1
  rw [Nat.zero_add] at h0 h1
  exact ⟨h0, h1⟩
theorem holds_cuts {w : World} {base n : Nat} {v : Value} {T S : Nat} {ws : List Int} (h : w.ownsRow base 63 2 v n (cutCells T S ws n)) (hn : 0 < n) :
    ∃ g cap, v = .slice (some ⟨g, 0, none⟩) n cap ∧ base ≤ g ∧ g < w.heap.size ∧ HoldsK encC 2 w g 0 (cutsL T S ws n).toArray := by
  rcases h.2 with ⟨e0, e1⟩ | ⟨g, cap, cur, rfl, hb, hg, hnc, hm, hs, ht⟩
  · exact absurd e1 (by omega)
  · have hlt : g < w.heap.size := (Array.getElem?_eq_some_iff.1 hg).1
    refine ⟨g, cap, rfl, hb, hlt, fun j hj => ?_⟩
    rw [size_flatK] at hj
    have hsz : (cutsL T S ws n).toArray.size = n := by simp [cutsL_len]
    rw [hsz] at hj
    refine ⟨?_, by simp [World.frozen?, hg]⟩
    rw [get_flatK _ _ _ _ (by rw [hsz]; exact hj), Nat.zero_add, h.cellAt j hj]
    have hj2 : j / 2 < n := by omega
    have e : (cutsL T S ws n).toArray[j / 2]! = (j / 2, rW T S ws (j / 2)) := by simp [cutsL, hj2]
    rw [e]
    have hflat : ∀ (m i c : Nat), i < m → c < 2 → (cutCells T S ws m)[i * 2 + c]? = some ((encC (i, rW T S ws i))[c]!) := by
      intro m
      induction m with
      | zero => intro i c hi; omega
      | succ m ih =>
        intro i c hi hc
        have hlen : (cutCells T S ws m).length = m * 2 := by
          clear ih hi
          induction m with
          | zero => rfl
          | succ m ih => rw [cutCells_succ, List.length_append, ih]; simp [encC]; omega
        rw [cutCells_succ]
        rcases Nat.lt_or_ge i m with g1 | g1
        · rw [List.getElem?_append_left (by rw [hlen]; omega)]
          exact ih i c g1 hc
        · obtain rfl : i = m := by omega
          rw [List.getElem?_append_right (by rw [hlen]; omega), hlen, show i * 2 + c - i * 2 = c by omega]
          have : c = 0 ∨ c = 1 := by omega
          rcases this with rfl | rfl <;> rfl
    have := hflat n (j / 2) (j % 2) hj2 (by omega)
    rw [show j / 2 * 2 + j % 2 = j by omega] at this
    rw [this]
    rfl

end Go.Proofs.Ytncodoaphfeefaa
