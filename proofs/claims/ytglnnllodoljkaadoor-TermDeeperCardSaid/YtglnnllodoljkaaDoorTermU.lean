/- Terms within terms: a plain law. -/
import Derived.Test.YtglnnllodoljkaaDoorTermM
namespace Go.Proofs.YtglnnllodoljkaaDoor
open Go.RowKit Go.Shelf
set_option linter.unusedVariables false
set_option linter.unusedSimpArgs false

theorem skip_take : ∀ (l : List Int) (k m n : Nat), skip k l = some m → m ≤ n → skip k (l.take n) = some m
  | l, 0, m, n, h, _ => by
    rw [skip_zero] at h
    cases h
    rw [skip_zero]
  | [], k + 1, m, n, h, _ => by cases h
  | op :: l, k + 1, m, n, h, hn => by
    rw [skip] at h
    by_cases h0 : shp op 0 = 0
    · rw [if_pos h0] at h
      cases h
    · rw [if_neg h0] at h
      cases e : skip (k + mny op) l with
      | none => rw [e] at h; cases h
      | some m' =>
        rw [e] at h
        simp only [Option.map_some, Option.some.injEq] at h
        subst h
        cases n with
        | zero => omega
        | succ n =>
          rw [List.take_succ_cons, skip, if_neg h0, skip_take l _ m' n e (by omega)]
          rfl

def sub (ns : List Nd) (i q : Nat) : List Nd := (ns.drop i).take q
theorem sub_len {ns : List Nd} {i q : Nat} (h : i + q ≤ ns.length) : (sub ns i q).length = q := by unfold sub; rw [List.length_take, List.length_drop]; omega
theorem sub_at {ns : List Nd} {i q j : Nat} (h : i + q ≤ ns.length) (hj : j < q) : Nd.at (sub ns i q) j = Nd.at ns (i + j) := by
  unfold Nd.at sub
  simp only [List.getD_eq_getElem?_getD, List.getElem?_take, hj, if_true, List.getElem?_drop]
theorem sub_ops (ns : List Nd) (i q : Nat) : opsOf (sub ns i q) = ((opsOf ns).drop i).take q := by
  unfold opsOf sub
  rw [List.map_take, List.map_drop]
theorem sub_skip {ns : List Nd} {i q j k m : Nat} (h : skip k ((opsOf ns).drop (i + j)) = some m) (hm : j + m ≤ q) : skip k ((opsOf (sub ns i q)).drop j) = some m := by
  rw [sub_ops, List.drop_take, List.drop_drop]
  exact skip_take _ _ _ _ h (by omega)
/-- The terms below a node of a term lie within it. -/
theorem kids_within {ns : List Nd} {i q : Nat} (hi : i < ns.length) (h : skip 1 ((opsOf ns).drop i) = some q) : shp (Nd.at ns i).op 0 ≠ 0 ∧ ∃ r, skip (mny (Nd.at ns i).op) ((opsOf ns).drop (i + 1)) = some r ∧ q = r + 1 := by
  have hop0 : shp (Nd.at ns i).op 0 ≠ 0 := fun h5 => by rw [skip_none hi h5] at h; cases h
  refine ⟨hop0, ?_⟩
  rw [skip_one hi hop0] at h
  cases e : skip (mny (Nd.at ns i).op) ((opsOf ns).drop (i + 1)) with
  | none => rw [e] at h; cases h
  | some r => rw [e] at h; cases h; exact ⟨r, rfl, rfl⟩
theorem place_end {ns : List Nd} {i M r : Nat} (h : skip M ((opsOf ns).drop (i + 1)) = some r) : place ns i M = i + 1 + r := place_at h
theorem place_mono {ns : List Nd} {i M r k : Nat} (h : skip M ((opsOf ns).drop (i + 1)) = some r) (hk : k < M) : place ns i k < place ns i (k + 1) := by
  obtain ⟨q, h1, h2⟩ := place_next h hk
  have := (skip_le _ _ _ h1).1
  omega
theorem place_up {ns : List Nd} {i M r : Nat} (h : skip M ((opsOf ns).drop (i + 1)) = some r) : ∀ k, k ≤ M → place ns i k ≤ i + 1 + r := by
  intro k hk
  obtain ⟨m', h1, h2⟩ := skip_part h hk
  rw [place_at h1]
  omega
theorem place_in {ns : List Nd} {i q : Nat} (hi : i < ns.length) (h : skip 1 ((opsOf ns).drop i) = some q) {k : Nat} (hk : k < mny (Nd.at ns i).op) : i < place ns i k ∧ place ns i k < i + q ∧ ∃ q', skip 1 ((opsOf ns).drop (place ns i k)) = some q' ∧ place ns i k + q' ≤ i + q ∧ place ns i (k + 1) = place ns i k + q' := by
  obtain ⟨_, r, hr, rfl⟩ := kids_within hi h
  obtain ⟨q', h1, h2⟩ := place_next hr hk
  have h3 := (skip_le _ _ _ h1).1
  have h4 := place_up hr (k + 1) (by omega)
  exact ⟨place_gt _ _ _, by omega, q', h1, by omega, h2⟩
theorem sub_place {ns : List Nd} {i q j : Nat} (hb : i + q ≤ ns.length) (hj : j < q) {qj : Nat} (hq : skip 1 ((opsOf ns).drop (i + j)) = some qj) (hjq : j + qj ≤ q) {k : Nat} (hk : k ≤ mny (Nd.at ns (i + j)).op) : i + place (sub ns i q) j k = place ns (i + j) k := by
  obtain ⟨_, r, hr, rfl⟩ := kids_within (by omega) hq
  obtain ⟨m', h1, h2⟩ := skip_part hr hk
  rw [place_at h1]
  have h3 : skip k ((opsOf (sub ns i q)).drop (j + 1)) = some m' := sub_skip (by rw [← Nat.add_assoc]; exact h1) (by omega)
  rw [place_at h3]
  omega
theorem inner {ns : List Nd} {i q j : Nat} (hi : i < ns.length) (h : skip 1 ((opsOf ns).drop i) = some q) (hj : j < q) : ∃ qj, skip 1 ((opsOf ns).drop (i + j)) = some qj ∧ j + qj ≤ q := by
  obtain ⟨qj, h1, h2⟩ := skip_inside _ _ _ h j hj
  rw [List.drop_drop] at h1
  exact ⟨qj, h1, h2⟩
theorem skip_in {ns : List Nd} {i q : Nat} (h : skip 1 ((opsOf ns).drop i) = some q) : i + q ≤ ns.length := by
  have := (skip_le _ _ _ h).2
  have := (skip_le _ _ _ h).1
  rw [List.length_drop, opsOf_len] at *
  omega

/-- The sorts within a term that lies within another one. -/
theorem sub_sorts {ns : List Nd} {i q : Nat} (hi : i < ns.length) (h : skip 1 ((opsOf ns).drop i) = some q) (hs : ∀ j, j < ns.length → sortsOk ns j) : ∀ j, j < q → sortsOk (sub ns i q) j := by
  intro j hj k hk
  have hb := skip_in h
  obtain ⟨qj, h1, h2⟩ := inner hi h hj
  rw [sub_at hb hj] at hk
  obtain ⟨p1, p2, _⟩ := place_in (by omega) h1 hk
  have hp := sub_place hb hj h1 h2 (Nat.le_of_lt hk)
  unfold sortOk
  rw [sub_at hb (show place (sub ns i q) j k < q by omega), sub_at hb hj, hp]
  exact hs (i + j) (by omega) k hk
theorem sub_deep {ns : List Nd} {i q : Nat} (hi : i < ns.length) (h : skip 1 ((opsOf ns).drop i) = some q) : ∀ (m j : Nat), j < q → deepF (sub ns i q) m j = deepF ns m (i + j)
  | 0, _, _ => rfl
  | m + 1, j, hj => by
    have hb := skip_in h
    obtain ⟨qj, h1, h2⟩ := inner hi h hj
    rw [deepF, deepF, sub_at hb hj]
    congr 1
    have : ∀ (l : List Nat) (n : Nat), (∀ k ∈ l, k < mny (Nd.at ns (i + j)).op) → l.foldl (fun n k => max n (deepF (sub ns i q) m (place (sub ns i q) j k))) n = l.foldl (fun n k => max n (deepF ns m (place ns (i + j) k))) n := by
      intro l
      induction l with
      | nil => exact fun _ _ => rfl
      | cons k l ih =>
        intro n hl
        have hk := hl k (by simp)
        obtain ⟨p1, p2, _⟩ := place_in (by omega) h1 hk
        have hp := sub_place hb hj h1 h2 (Nat.le_of_lt hk)
        rw [List.foldl_cons, List.foldl_cons, sub_deep hi h m _ (by omega), hp]
        exact ih _ (fun k hk => hl k (by simp [hk]))
    exact this _ _ (fun k hk => List.mem_range.1 hk)
theorem max_fold_le (f : Nat → Nat) : ∀ (l : List Nat) (n : Nat), n ≤ l.foldl (fun n k => max n (f k)) n ∧ ∀ k ∈ l, f k ≤ l.foldl (fun n k => max n (f k)) n
  | [], n => ⟨Nat.le_refl _, by simp⟩
  | x :: l, n => by
    obtain ⟨h1, h2⟩ := max_fold_le f l (max n (f x))
    rw [List.foldl_cons]
    refine ⟨by omega, fun k hk => ?_⟩
    rcases List.mem_cons.1 hk with rfl | hk
    · have : f k ≤ max n (f k) := Nat.le_max_right _ _
      omega
    · exact h2 k hk
theorem between {f : Nat → Nat} : ∀ (M i : Nat), f 0 ≤ i → i < f M → ∃ k, k < M ∧ f k ≤ i ∧ i < f (k + 1)
  | 0, i, h1, h2 => by omega
  | M + 1, i, h1, h2 => by
    rcases Nat.lt_or_ge i (f M) with h | h
    · obtain ⟨k, a, b, c⟩ := between M i h1 h
      exact ⟨k, by omega, b, c⟩
    · exact ⟨M, by omega, h, h2⟩
/-- What lies within is no deeper. -/
theorem deep_within {ns : List Nd} : ∀ (q i : Nat), i < ns.length → skip 1 ((opsOf ns).drop i) = some q → ∀ j, i ≤ j → j < i + q → deepF ns ns.length j ≤ deepF ns ns.length i := by
  intro q
  induction q using Nat.strongRecOn with
  | _ q ih =>
    intro i hi h j hij hj
    rcases Nat.lt_or_ge i j with hlt | hge
    · obtain ⟨_, r, hr, rfl⟩ := kids_within hi h
      obtain ⟨k, hk, h1, h2⟩ := between (f := fun k => place ns i k) (mny (Nd.at ns i).op) j (by rw [place_zero]; omega) (by rw [place_end hr]; omega)
      obtain ⟨p1, p2, q', hq', p3, p4⟩ := place_in hi h hk
      have hle := (skip_le _ _ _ hq').1
      have h5 := ih q' (by omega) (place ns i k) (by have := skip_in hq'; omega) hq' j h1 (by omega)
      obtain ⟨N, hN⟩ : ∃ N, ns.length = N + 1 := ⟨ns.length - 1, by omega⟩
      have h6 := (max_fold_le (fun k => deepF ns N (place ns i k)) (List.range (mny (Nd.at ns i).op)) 0).2 k (List.mem_range.2 hk)
      have h7 : deepF ns ns.length i = (List.range (mny (Nd.at ns i).op)).foldl (fun n k => max n (deepF ns N (place ns i k))) 0 + 1 := by rw [hN, deepF]
      have h8 : deepF ns N (place ns i k) = deepF ns ns.length (place ns i k) := deepF_enough ns _ _ _ (by omega) (by omega)
      omega
    · obtain rfl : i = j := by omega
      exact Nat.le_refl _
theorem ofV_ok {ns : List Nd} (h : (ofV ns).2 = 0) : ns.length ≤ 64 ∧ 0 < ns.length ∧ skip 1 (opsOf ns) = some ns.length ∧ (∀ i, i < ns.length → fieldsV (Nd.at ns i) = true) ∧ (∀ i, i < ns.length → sortsOk ns i) ∧ deepF ns ns.length 0 ≤ 12 ∧ (ofV ns).1 = shp (Nd.at ns 0).op 0 := by
  unfold ofV at h ⊢
  split at h
  · simp at h
  rename_i a1
  split at h
  · simp at h
  rename_i a2
  split at h
  · simp at h
  rename_i a3
  split at h
  · simp at h
  rename_i a4
  split at h
  · simp at h
  rename_i a5
  rw [if_neg a1, if_neg a2, if_neg a3, if_neg a4, if_neg a5]
  simp only [not_or, Decidable.not_not] at a2 a3 a4
  exact ⟨by omega, by omega, a2.2, a3, a4, by omega, rfl⟩
theorem ofV_mk {ns : List Nd} (h1 : ns.length ≤ 64) (h2 : 0 < ns.length) (h3 : skip 1 (opsOf ns) = some ns.length) (h4 : ∀ i, i < ns.length → fieldsV (Nd.at ns i) = true) (h5 : ∀ i, i < ns.length → sortsOk ns i) (h6 : deepF ns ns.length 0 ≤ 12) : ofV ns = (shp (Nd.at ns 0).op 0, 0) := by
  unfold ofV
  rw [if_neg (by omega), if_neg (fun h => h.elim (fun h => by omega) (fun h => h h3)), if_neg (by simpa using h4), if_neg (by simpa using h5), if_neg (by omega)]
/-- What stands below any node of a term is a term. -/
theorem sub_ofV {ns : List Nd} (h : (ofV ns).2 = 0) {i q : Nat} (hi : i < ns.length) (hq : skip 1 ((opsOf ns).drop i) = some q) : ofV (sub ns i q) = (shp (Nd.at ns i).op 0, 0) := by
  obtain ⟨h1, h2, h3, h4, h5, h6, _⟩ := ofV_ok h
  have hb := skip_in hq
  have hl := sub_len hb
  have hq1 := (skip_le _ _ _ hq).1
  have hdq : deepF (sub ns i q) (sub ns i q).length 0 ≤ 12 := by
    rw [deepF_enough (sub ns i q) (sub ns i q).length ns.length 0 (by omega) (by omega), sub_deep hi hq _ _ (by omega), Nat.add_zero]
    have h7 := deep_within ns.length 0 h2 (by rw [List.drop_zero]; exact h3) i (by omega) (by omega)
    omega
  rw [ofV_mk (by omega) (by omega) (by
    have := sub_skip (i := i) (q := q) (j := 0) (by rw [Nat.add_zero]; exact hq) (by omega)
    rw [List.drop_zero] at this
    rw [hl]
    exact this) (fun j hj => by rw [hl] at hj; rw [sub_at hb hj]; exact h4 _ (by omega)) (fun j hj => sub_sorts hi hq h5 j (by omega)) hdq, sub_at hb (by omega), Nat.add_zero]

end Go.Proofs.YtglnnllodoljkaaDoor
