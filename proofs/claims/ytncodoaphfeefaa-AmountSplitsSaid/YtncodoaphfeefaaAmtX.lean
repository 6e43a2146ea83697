/- amount.Split's parts, plainly: they come to the total, none has another sign, the greater weight has no less. -/
import Derived.Test.YtncodoaphfeefaaAmtF
namespace Go.Proofs.Ytncodoaphfeefaa
open Go.RowKit Go.Shelf Go.Lib Go.Sort
set_option linter.unusedVariables false
set_option linter.unusedSimpArgs false

theorem sum_setI : ∀ (l : List Int) (i : Nat) (v : Int), i < l.length → (l.set i v).sum = l.sum - l.getD i 0 + v
  | [], i, v, h => absurd h (by simp)
  | x :: l, 0, v, h => by simp; omega
  | x :: l, i + 1, v, h => by
    have := sum_setI l i v (by simpa using h)
    simp only [List.set_cons_succ, List.sum_cons, List.getD_cons_succ]
    omega
theorem sum_mapcast (f : Nat → Nat) : ∀ l : List Nat, (l.map fun i => (f i : Int)).sum = (((l.map f).sum : Nat) : Int)
  | [] => rfl
  | x :: l => by
    have := sum_mapcast f l
    simp only [List.map_cons, List.sum_cons]
    omega
theorem baseL_sum (T S : Nat) (ws : List Int) (n : Nat) : (baseL T S ws n).sum = (sumQ T S ws n : Int) := sum_mapcast _ _
/-- The parts with k gifts come to k more. -/
theorem outG_sum {T S : Nat} {ws : List Int} {n : Nat} {d : Array Cut} (h : SortedOf (cutsL T S ws n).toArray d) : ∀ k, k ≤ n → (outG T S ws d k n).sum = (sumQ T S ws n : Int) + k
  | 0, _ => by rw [outG_zero, baseL_sum]; omega
  | k + 1, hk => by
    obtain ⟨hs, hm⟩ := sorted_at h
    obtain ⟨h1, h2, h3⟩ := hm k (by omega)
    have ih := outG_sum h k (by omega)
    rw [← outG_step T S ws d k n (by omega) h1 h3, sum_setI _ _ _ (by rw [outG_len]; exact h1), ih]
    omega
def sumR (T S : Nat) (ws : List Int) (k : Nat) : Nat := ((List.range k).map (rW T S ws)).sum
theorem sumR_succ (T S : Nat) (ws : List Int) (k : Nat) : sumR T S ws (k + 1) = sumR T S ws k + rW T S ws k := by simp [sumR, List.range_succ]
theorem parted (T S : Nat) (ws : List Int) : ∀ k, S * sumQ T S ws k + sumR T S ws k = T * sumW ws k
  | 0 => rfl
  | k + 1 => by
    have ih := parted T S ws k
    have hd := Nat.div_add_mod (T * (ws.getD k 0).toNat) S
    rw [sumQ_succ, sumR_succ, sumW_succ, Nat.mul_add, Nat.mul_add]
    unfold qW rW
    omega
theorem sumR_le {T S : Nat} (hS : 0 < S) (ws : List Int) : ∀ k, sumR T S ws k + k ≤ S * k
  | 0 => by simp [sumR]
  | k + 1 => by
    have ih := sumR_le (T := T) hS ws k
    have := Nat.mod_lt (T * (ws.getD k 0).toNat) hS
    rw [sumR_succ, Nat.mul_add]
    unfold rW
    omega
/-- What is left for gifts. -/
theorem left_few {T S : Nat} {ws : List Int} {n : Nat} (hS : 0 < S) (hn : sumW ws n = S) : S * (T - sumQ T S ws n) = sumR T S ws n ∧ T - sumQ T S ws n ≤ n ∧ sumQ T S ws n ≤ T := by
  have h1 := parted T S ws n
  have h2 := sumQ_T (T := T) (ws := ws) (k := n) (n := n) hS hn (Nat.le_refl n)
  have h3 := sumR_le (T := T) hS ws n
  rw [hn] at h1
  have h4 : S * (T - sumQ T S ws n) = sumR T S ws n := by
    rw [Nat.mul_sub, Nat.mul_comm S T]
    omega
  refine ⟨h4, ?_, h2⟩
  refine Nat.le_of_mul_le_mul_left ?_ hS
  omega
theorem outG_total {T S : Nat} {ws : List Int} {n : Nat} {d : Array Cut} (hS : 0 < S) (hn : sumW ws n = S) (h : SortedOf (cutsL T S ws n).toArray d) : (outG T S ws d (min (T - sumQ T S ws n) n) n).sum = (T : Int) := by
  obtain ⟨h1, h2, h3⟩ := left_few (T := T) hS hn
  rw [outG_sum h _ (Nat.min_le_right _ _), Nat.min_eq_left h2]
  omega

/-! ### Where the gifts go -/
theorem gift_iff {d : Array Cut} {k i : Nat} (hk : k ≤ d.size) : gift d k i = true ↔ ∃ j, j < k ∧ (d[j]!).1 = i := by
  unfold gift
  rw [List.any_eq_true]
  constructor
  · rintro ⟨c, hc, e⟩
    obtain ⟨j, hj, e2⟩ := List.mem_iff_getElem.1 hc
    have hj' : j < k := by rw [List.length_take] at hj; omega
    refine ⟨j, hj', ?_⟩
    rw [getElem!_pos d j (by omega)]
    rw [List.getElem_take] at e2
    have : d[j] = c := by rw [← e2]; simp
    rw [this]
    simpa using e
  · rintro ⟨j, hj, e⟩
    refine ⟨d[j]!, ?_, by simpa using e⟩
    rw [getElem!_pos d j (by omega)]
    refine List.mem_iff_getElem.2 ⟨j, by rw [List.length_take]; simp; omega, ?_⟩
    rw [List.getElem_take]
    simp
theorem cut_at {T S : Nat} {ws : List Int} {n i : Nat} {d : Array Cut} (h : SortedOf (cutsL T S ws n).toArray d) (hi : i < n) : ∃ j, j < n ∧ d[j]! = (i, rW T S ws i) := by
  obtain ⟨hs, _⟩ := sorted_at h
  have h0 : ((i, rW T S ws i) : Cut) ∈ d.toList := h.perm.mem_iff.2 (by show _ ∈ cutsL T S ws n; exact List.mem_map.2 ⟨i, List.mem_range.2 hi, rfl⟩)
  obtain ⟨j, hj, e⟩ := List.mem_iff_getElem.1 h0
  have hj' : j < d.size := by simpa using hj
  exact ⟨j, by omega, by rw [getElem!_pos d j hj', ← e]; simp⟩
theorem rests_sum {T S : Nat} {ws : List Int} {n : Nat} {d : Array Cut} (h : SortedOf (cutsL T S ws n).toArray d) : (d.toList.map fun c => c.2).sum = sumR T S ws n := by
  have h1 := (h.perm.map fun c : Cut => c.2).sum_nat
  rw [h1]
  simp [cutsL, sumR, Function.comp_def]
theorem sum_bound (S : Nat) : ∀ (l : List Nat), (∀ x ∈ l, x ≤ S) → l.sum ≤ S * l.length
  | [], _ => by simp
  | x :: l, h => by
    have h1 := sum_bound S l fun y hy => h y (by simp [hy])
    have h2 := h x (by simp)
    rw [List.sum_cons, List.length_cons, Nat.mul_add]
    omega
theorem sum_zero : ∀ (l : List Nat), (∀ x ∈ l, x = 0) → l.sum = 0
  | [], _ => rfl
  | x :: l, h => by
    rw [List.sum_cons, h x (by simp), sum_zero l fun y hy => h y (by simp [hy])]
/-- No gift to what has no rest. -/
theorem gift_rest {T S : Nat} {ws : List Int} {n i : Nat} {d : Array Cut} (hS : 0 < S) (hn : sumW ws n = S) (h : SortedOf (cutsL T S ws n).toArray d) (hi : i < n) (h0 : rW T S ws i = 0) : gift d (T - sumQ T S ws n) i = false := by
  obtain ⟨hs, hm⟩ := sorted_at h
  obtain ⟨l1, l2, l3⟩ := left_few (T := T) hS hn
  rw [Bool.eq_false_iff]
  intro hg
  obtain ⟨j, hj, e⟩ := (gift_iff (by omega)).1 hg
  have hj0 : (d[j]!).2 = 0 := by rw [(hm j (by omega)).2.1, e, h0]
  have hsum := rests_sum h
  rw [← List.take_append_drop j d.toList, List.map_append, List.sum_append] at hsum
  have z : ((d.toList.drop j).map fun c => c.2).sum = 0 := sum_zero _ fun x hx => by
    obtain ⟨c, hc, rfl⟩ := List.mem_map.1 hx
    obtain ⟨p, hp, rfl⟩ := List.mem_iff_getElem.1 hc
    rw [List.length_drop] at hp
    have hp2 : j + p < d.size := by simp at hp; omega
    rw [List.getElem_drop]
    have e3 : d.toList[j + p]'(by simpa using hp2) = d[j + p]! := by rw [getElem!_pos d (j + p) hp2]; simp
    rw [e3]
    rcases Nat.eq_zero_or_pos p with rfl | hp3
    · exact hj0
    · have := h.rises j (j + p) (by omega) hp2
      unfold lexC at this
      omega
  have b : ((d.toList.take j).map fun c => c.2).sum ≤ S * j := by
    have := sum_bound S ((d.toList.take j).map fun c => c.2) fun x hx => by
      obtain ⟨c, hc, rfl⟩ := List.mem_map.1 hx
      obtain ⟨p, hp, rfl⟩ := List.mem_iff_getElem.1 hc
      rw [List.length_take] at hp
      have hp2 : p < d.size := by simp at hp; omega
      rw [List.getElem_take]
      have e3 : d.toList[p]'(by simpa using hp2) = d[p]! := by rw [getElem!_pos d p hp2]; simp
      rw [e3, (hm p (by omega)).2.1]
      exact Nat.le_of_lt (Nat.mod_lt _ hS)
    rw [List.length_map, List.length_take] at this
    rwa [Nat.min_eq_left (by simp; omega)] at this
  have g : S * (j + 1) ≤ S * (T - sumQ T S ws n) := Nat.mul_le_mul_left S hj
  rw [Nat.mul_add] at g
  omega
/-- The greater rest has the gift. -/
theorem gift_more {T S : Nat} {ws : List Int} {n i k g : Nat} {d : Array Cut} (h : SortedOf (cutsL T S ws n).toArray d) (hg : g ≤ n) (hi : i < n) (hr : rW T S ws k < rW T S ws i) (hk : gift d g k = true) : gift d g i = true := by
  obtain ⟨hs, hm⟩ := sorted_at h
  obtain ⟨j, hj, e⟩ := (gift_iff (by omega)).1 hk
  obtain ⟨p, hp, e2⟩ := cut_at h hi
  refine (gift_iff (by omega)).2 ⟨p, ?_, by rw [e2]⟩
  have h1 := (hm j (by omega)).2.1
  rw [e] at h1
  rcases Nat.lt_or_ge p g with c | c
  · exact c
  · have := h.rises j p (by omega) (by omega)
    unfold lexC at this
    rw [e2, h1] at this
    simp only at this
    omega

/-! ### The law -/
structure WholeL (total : Int) (ws xs : List Int) : Prop where
  len : xs.length = ws.length
  sum : xs.sum = total
  sgn : ∀ i, i < ws.length → (0 ≤ total → 0 ≤ xs.getD i 0) ∧ (total ≤ 0 → xs.getD i 0 ≤ 0) ∧ (ws.getD i 0 = 0 → xs.getD i 0 = 0)
  mono : ∀ i k, i < ws.length → k < ws.length → ws.getD k 0 < ws.getD i 0 → (0 < total → xs.getD k 0 ≤ xs.getD i 0) ∧ (total < 0 → xs.getD i 0 ≤ xs.getD k 0)
  bnd : ∀ x ∈ xs, -(total.natAbs : Int) ≤ x ∧ x ≤ (total.natAbs : Int)
theorem mem_le_sum : ∀ (l : List Int), (∀ x ∈ l, 0 ≤ x) → ∀ x ∈ l, x ≤ l.sum
  | [], _, x, h => by simp at h
  | y :: l, h, x, hx => by
    have hl : 0 ≤ l.sum := by
      clear hx
      have : ∀ (l : List Int), (∀ x ∈ l, 0 ≤ x) → 0 ≤ l.sum := fun l => by
        induction l with
        | nil => intro _; simp
        | cons a l ih => intro h; have h1 := ih fun z hz => h z (by simp [hz]); have h2 := h a (by simp); rw [List.sum_cons]; omega
      exact this l fun z hz => h z (by simp [hz])
    rw [List.sum_cons]
    rcases List.mem_cons.1 hx with rfl | hx
    · omega
    · have h1 := mem_le_sum l (fun z hz => h z (by simp [hz])) x hx
      have h2 := h y (by simp)
      omega
theorem neg_sum : ∀ l : List Int, (l.map fun x => -x).sum = -l.sum
  | [] => rfl
  | x :: l => by rw [List.map_cons, List.sum_cons, List.sum_cons, neg_sum l]; omega
theorem splitL_whole {total : Int} {ws : List Int} {d : Array Cut} (hp : ∀ w ∈ ws, 0 ≤ w) (h0 : 0 < ws.sum) (h : SortedOf (cutsL total.natAbs ws.sum.natAbs ws ws.length).toArray d) : WholeL total ws (splitL total total.natAbs ws.sum.natAbs ws d ws.length) := by
  obtain ⟨T, hT⟩ : ∃ T, total.natAbs = T := ⟨_, rfl⟩
  obtain ⟨S, hS⟩ : ∃ S, ws.sum.natAbs = S := ⟨_, rfl⟩
  have hall := sumW_all hp
  have hn : sumW ws ws.length = S := by omega
  have hS0 : 0 < S := by omega
  rw [hT, hS] at h ⊢
  obtain ⟨l1, l2, l3⟩ := left_few (T := T) hS0 hn
  have htot := outG_total hS0 hn h
  obtain ⟨G, hG⟩ : ∃ G, T - sumQ T S ws ws.length = G := ⟨_, rfl⟩
  rw [hG] at l1 l2 htot
  have hmin : min G ws.length = G := Nat.min_eq_left l2
  unfold splitL
  rw [hG, hmin]
  rw [hmin] at htot
  obtain ⟨ys, hys⟩ : ∃ ys, outG T S ws d G ws.length = ys := ⟨_, rfl⟩
  have hyl : ys.length = ws.length := by rw [← hys]; exact outG_len _ _ _ _ _ _
  have hyg : ∀ i, i < ws.length → ys.getD i 0 = (qW T S ws i : Int) + (if gift d G i = true then 1 else 0) := fun i hi => by rw [← hys]; exact outG_get _ _ _ _ _ _ _ hi
  have hwn : ∀ i, i < ws.length → 0 ≤ ws.getD i 0 := fun i hi => by
    have : ws.getD i 0 ∈ ws := by simp [List.getD_eq_getElem?_getD, hi]
    exact hp _ this
  rw [hys] at htot ⊢
  have hpos : ∀ i, i < ws.length → 0 ≤ ys.getD i 0 := fun i hi => by rw [hyg i hi]; split <;> omega
  have hzero : ∀ i, i < ws.length → ws.getD i 0 = 0 → ys.getD i 0 = 0 := fun i hi hw => by
    have q0 : qW T S ws i = 0 := by unfold qW; rw [hw]; simp
    have r0 : rW T S ws i = 0 := by unfold rW; rw [hw]; simp
    have := gift_rest hS0 hn h hi r0
    rw [hG] at this
    rw [hyg i hi, q0, this]
    simp
  have hT0 : T = 0 → ∀ i, i < ws.length → ys.getD i 0 = 0 := fun ht i hi => by
    have q0 : qW T S ws i = 0 := by unfold qW; rw [ht]; simp
    have r0 : rW T S ws i = 0 := by unfold rW; rw [ht]; simp
    have := gift_rest hS0 hn h hi r0
    rw [hG] at this
    rw [hyg i hi, q0, this]
    simp
  have hmono : 0 < T → ∀ i k, i < ws.length → k < ws.length → ws.getD k 0 < ws.getD i 0 → ys.getD k 0 ≤ ys.getD i 0 := fun ht i k hi hk hw => by
    have hk0 := hwn k hk
    have hlt : (ws.getD k 0).toNat < (ws.getD i 0).toNat := by omega
    have hm : T * (ws.getD k 0).toNat < T * (ws.getD i 0).toNat := Nat.mul_lt_mul_of_pos_left hlt ht
    have d1 := Nat.div_add_mod (T * (ws.getD k 0).toNat) S
    have d2 := Nat.div_add_mod (T * (ws.getD i 0).toNat) S
    have q := Nat.div_le_div_right (c := S) (Nat.le_of_lt hm)
    rw [hyg i hi, hyg k hk]
    rcases Nat.lt_or_eq_of_le q with c | c
    · have c' : qW T S ws k < qW T S ws i := c
      split <;> split <;> omega
    · have c' : qW T S ws k = qW T S ws i := c
      have hr : rW T S ws k < rW T S ws i := by
        unfold rW
        rw [c] at d1
        omega
      rw [c']
      by_cases hg : gift d G k = true
      · rw [if_pos hg, if_pos (gift_more h l2 hi hr hg)]
        omega
      · rw [if_neg hg]
        split <;> omega
  have hin : ∀ x ∈ ys, 0 ≤ x := fun x hx => by
    obtain ⟨i, hi, rfl⟩ := List.mem_iff_getElem.1 hx
    have := hpos i (by omega)
    simpa [List.getD_eq_getElem?_getD, List.getElem?_eq_getElem hi] using this
  by_cases ht : total < 0
  · have hg : ∀ i, (ys.map fun x => if total < 0 then -x else x).getD i 0 = -(ys.getD i 0) := fun i => by
      rw [List.getD_eq_getElem?_getD, List.getElem?_map, List.getD_eq_getElem?_getD]
      cases ys[i]? <;> simp [ht]
    have hmap : (ys.map fun x => if total < 0 then -x else x) = ys.map fun x => -x := List.map_congr_left fun x _ => if_pos ht
    refine ⟨by rw [List.length_map]; exact hyl, by rw [hmap, neg_sum, htot]; omega, fun i hi => ⟨fun _ => by omega, fun _ => by rw [hg]; have := hpos i hi; omega, fun hw => by rw [hg, hzero i hi hw]; rfl⟩, fun i k hi hk hw => ⟨fun _ => by omega, fun _ => by rw [hg, hg]; have := hmono (by omega) i k hi hk hw; omega⟩, fun x hx => ?_⟩
    rw [hmap] at hx
    obtain ⟨y, hy, rfl⟩ := List.mem_map.1 hx
    have h1 := hin y hy
    have h2 := mem_le_sum ys hin y hy
    omega
  · have hmap : (ys.map fun x => if total < 0 then -x else x) = ys := by
      exact (List.map_congr_left (g := id) (fun x _ => if_neg ht)).trans (List.map_id ys)
    rw [hmap]
    refine ⟨hyl, by rw [htot]; omega, fun i hi => ⟨fun _ => hpos i hi, fun _ => by rw [hT0 (by omega) i hi]; omega, hzero i hi⟩, fun i k hi hk hw => ⟨fun _ => hmono (by omega) i k hi hk hw, fun _ => by omega⟩, fun x hx => ?_⟩
    have h1 := hin x hx
    have h2 := mem_le_sum ys hin x hx
    omega

end Go.Proofs.Ytncodoaphfeefaa
