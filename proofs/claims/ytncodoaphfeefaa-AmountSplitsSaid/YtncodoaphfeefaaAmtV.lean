/- Stable sorting by blocks and merges, plainly (up to 64 cuts). -/
import Derived.Test.YtncodoaphfeefaaAmtU
namespace Go.Proofs.Ytncodoaphfeefaa
open Go.RowKit Go.Shelf Go.Lib Go.Sort
set_option linter.unusedVariables false
set_option linter.unusedSimpArgs false

/-! ### The insertion sort of a block -/
theorem insA_inner (a : Nat) : ∀ (j : Nat) (d : Array Cut), a ≤ j → j < d.size → (∀ x y, a ≤ x → x < y → y < j → lxC d[x]! d[y]!) → (∀ x, a ≤ x → x < j → (d[x]!).1 < (d[j]!).1) →
    (insInner (ltOf cmpC) a j d).size = d.size ∧ (∀ k, j < k ∨ k < a → (insInner (ltOf cmpC) a j d)[k]! = d[k]!) ∧ (∀ x y, a ≤ x → x < y → y ≤ j → lxC (insInner (ltOf cmpC) a j d)[x]! (insInner (ltOf cmpC) a j d)[y]!) ∧ (∀ k, a ≤ k → k ≤ j → ∃ m, a ≤ m ∧ m ≤ j ∧ (insInner (ltOf cmpC) a j d)[k]! = d[m]!)
  | 0, d, ha, _, _, _ => by
    unfold insInner
    exact ⟨rfl, fun _ _ => rfl, fun x y h1 h2 h3 => by omega, fun k h1 h2 => ⟨k, h1, h2, rfl⟩⟩
  | j + 1, d, ha, hj, hpre, hat => by
    unfold insInner
    rw [ltC]
    by_cases hg : j + 1 > a
    · by_cases hc : (d[j]!).2 < (d[j + 1]!).2
      · rw [if_pos (by simp [hc, hg])]
        have hs : (swp d (j + 1) j).size = d.size := size_swp _ _ _
        have e1 : (swp d (j + 1) j)[j]! = d[j + 1]! := by rw [swp_get d (by omega) (by omega)]; simp
        have e2 : (swp d (j + 1) j)[j + 1]! = d[j]! := by rw [swp_get d (by omega) (by omega)]; simp
        have e3 : ∀ k, k ≠ j → k ≠ j + 1 → (swp d (j + 1) j)[k]! = d[k]! := fun k h1 h2 => swp_other d (j + 1) j k h2 h1
        obtain ⟨g1, g2, g3, g4⟩ := insA_inner a j (swp d (j + 1) j) (by omega) (by rw [hs]; omega) (fun x y h0 h1 h2 => by
          rw [e3 x (by omega) (by omega), e3 y (by omega) (by omega)]
          exact hpre x y h0 h1 (by omega)) (fun x h0 h1 => by
          rw [e3 x (by omega) (by omega), e1]
          exact hat x h0 (by omega))
        refine ⟨by rw [g1, hs], fun k hk => by rw [g2 k (by omega), e3 k (by omega) (by omega)], fun x y h0 h1 h2 => ?_, fun k h0 hk => ?_⟩
        · rcases Nat.lt_or_ge j y with h3 | h3
          · obtain rfl : y = j + 1 := by omega
            rw [g2 (j + 1) (by omega), e2]
            obtain ⟨m, hm0, hm, em⟩ := g4 x h0 (by omega)
            rw [em]
            by_cases hmj : m = j
            · subst hmj
              rw [e1]
              exact Or.inl hc
            · rw [e3 m hmj (by omega)]
              exact hpre m j hm0 (by omega) (by omega)
          · exact g3 x y h0 h1 h3
        · rcases Nat.lt_or_ge j k with h3 | h3
          · obtain rfl : k = j + 1 := by omega
            exact ⟨j, by omega, by omega, by rw [g2 (j + 1) (by omega), e2]⟩
          · obtain ⟨m, hm0, hm, em⟩ := g4 k h0 h3
            by_cases hmj : m = j
            · subst hmj
              exact ⟨m + 1, by omega, by omega, by rw [em, e1]⟩
            · exact ⟨m, hm0, by omega, by rw [em, e3 m hmj (by omega)]⟩
      · rw [if_neg (by simp [hc])]
        refine ⟨rfl, fun _ _ => rfl, fun x y h0 h1 h2 => ?_, fun k h0 hk => ⟨k, h0, hk, rfl⟩⟩
        have hlast : lxC d[j]! d[j + 1]! := by
          have := hat j (by omega) (by omega)
          unfold lxC
          omega
        rcases Nat.lt_or_ge y (j + 1) with h3 | h3
        · exact hpre x y h0 h1 h3
        · obtain rfl : y = j + 1 := by omega
          rcases Nat.lt_or_ge x j with h4 | h4
          · exact lxC_trans (hpre x j h0 h4 (by omega)) hlast
          · obtain rfl : x = j := by omega
            exact hlast
    · rw [if_neg (by simp [hg])]
      exact ⟨rfl, fun _ _ => rfl, fun x y h1 h2 h3 => by omega, fun k h1 h2 => ⟨k, h1, h2, rfl⟩⟩

theorem insA_outer (d0 : Array Cut) (a b : Nat) (hb : b ≤ d0.size) (h0 : ∀ x y, a ≤ x → x < y → y < b → (d0[x]!).1 < (d0[y]!).1) : ∀ (g i : Nat) (d : Array Cut), b - i ≤ g → a < i → i ≤ b → d.size = d0.size → (∀ x y, a ≤ x → x < y → y < i → lxC d[x]! d[y]!) → (∀ k, a ≤ k → k < i → ∃ m, a ≤ m ∧ m < i ∧ d[k]! = d0[m]!) → (∀ k, i ≤ k → d[k]! = d0[k]!) →
    Srt a b (insOuter (ltOf cmpC) a b i d)
  | 0, i, d, hg, hai, hi, hs, h1, h2, h3 => by
    unfold insOuter
    rw [if_neg (by omega)]
    intro x y k0 k1 k2
    exact h1 x y k0 k1 (by omega)
  | g + 1, i, d, hg, hai, hi, hs, h1, h2, h3 => by
    unfold insOuter
    by_cases hlt : i < b
    · rw [if_pos hlt]
      obtain ⟨g1, g2, g3, g4⟩ := insA_inner a i d (by omega) (by omega) h1 (fun x hx0 hx => by
        obtain ⟨m, hm0, hm, em⟩ := h2 x hx0 hx
        rw [em, h3 i (Nat.le_refl _)]
        exact h0 m i hm0 hm hlt)
      refine insA_outer d0 a b hb h0 g (i + 1) _ (by omega) (by omega) (by omega) (by rw [g1, hs]) (fun x y k0 k1 k2 => g3 x y k0 k1 (by omega)) (fun k k0 hk => ?_) (fun k hk => by rw [g2 k (by omega), h3 k (by omega)])
      obtain ⟨m, hm0, hm, em⟩ := g4 k k0 (by omega)
      rcases Nat.lt_or_ge m i with h5 | h5
      · obtain ⟨m', hm0', hm', em'⟩ := h2 m hm0 h5
        exact ⟨m', hm0', by omega, by rw [em, em']⟩
      · obtain rfl : m = i := by omega
        exact ⟨m, hm0, by omega, by rw [em, h3 m (Nat.le_refl _)]⟩
    · rw [if_neg hlt]
      intro x y k0 k1 k2
      exact h1 x y k0 k1 (by omega)
theorem insA_srt (d : Array Cut) (a b : Nat) (hab : a ≤ b) (hb : b ≤ d.size) (h0 : ∀ x y, a ≤ x → x < y → y < b → (d[x]!).1 < (d[y]!).1) : Mrg a b d (Sort.insertionSort (ltOf cmpC) d a b) := by
  refine ⟨(insertionSort_holds (lt := ltOf cmpC) swoC d a b hab hb).1, ?_⟩
  rcases Nat.lt_or_ge a b with h | h
  · exact insA_outer d a b hb h0 b (a + 1) d (by omega) (by omega) (by omega) rfl (fun x y k0 k1 k2 => by omega) (fun k k0 hk => ⟨k, k0, hk, rfl⟩) (fun k hk => rfl)
  · intro x y k0 k1 k2
    omega

/-! ### Runs -/
def Asc (d : Array Cut) (n : Nat) : Prop := ∀ x y, x < y → y < n → (d[x]!).1 < (d[y]!).1
structure Run (d cur : Array Cut) (lo hi : Nat) : Prop where
  fr : ∀ x, lo ≤ x → x < hi → ∃ m, lo ≤ m ∧ m < hi ∧ cur[x]! = d[m]!
  srt : Srt lo hi cur
theorem Run.congr {d cur cur' : Array Cut} {lo hi : Nat} (r : Run d cur lo hi) (h : ∀ x, lo ≤ x → x < hi → cur'[x]! = cur[x]!) : Run d cur' lo hi :=
  ⟨fun x h1 h2 => by rw [h x h1 h2]; exact r.fr x h1 h2, fun x y h1 h2 h3 => by rw [h x h1 (by omega), h y (by omega) h3]; exact r.srt x y h1 h2 h3⟩
theorem Run.two {d cur : Array Cut} {lo m hi n : Nat} (hA : Asc d n) (hn : hi ≤ n) (r1 : Run d cur lo m) (r2 : Run d cur m hi) : Two lo m hi cur :=
  ⟨r1.srt, r2.srt, fun x y h1 h2 h3 h4 => by
    obtain ⟨p, _, hp, ep⟩ := r1.fr x h1 h2
    obtain ⟨q, hq, hq2, eq⟩ := r2.fr y h3 h4
    rw [ep, eq]
    exact hA p q (by omega) (by omega)⟩
theorem Run.mrg {d cur cur' : Array Cut} {lo m hi : Nat} (hs : hi ≤ cur.size) (h1 : lo ≤ m) (h2 : m ≤ hi) (r1 : Run d cur lo m) (r2 : Run d cur m hi) (h : Mrg lo hi cur cur') : Run d cur' lo hi := by
  refine ⟨fun x k1 k2 => ?_, h.srt⟩
  refine permIn_all cur cur' lo hi (fun z => ∃ m, lo ≤ m ∧ m < hi ∧ z = d[m]!) hs h.perm (fun i k3 k4 => ?_) x k1 k2
  rcases Nat.lt_or_ge i m with c | c
  · obtain ⟨p, h1, h2, e⟩ := r1.fr i k3 c
    exact ⟨p, h1, by omega, e⟩
  · obtain ⟨p, h1, h2, e⟩ := r2.fr i c k4
    exact ⟨p, by omega, h2, e⟩
theorem Run.ins {d cur : Array Cut} {lo hi n : Nat} (hA : Asc d n) (hn : hi ≤ n) (hs : hi ≤ cur.size) (hl : lo ≤ hi) (hr : ∀ x, lo ≤ x → cur[x]! = d[x]!) : Mrg lo hi cur (Sort.insertionSort (ltOf cmpC) cur lo hi) ∧ Run d (Sort.insertionSort (ltOf cmpC) cur lo hi) lo hi := by
  have hM := insA_srt cur lo hi hl hs (fun x y h1 h2 h3 => by rw [hr x h1, hr y (by omega)]; exact hA x y h2 (by omega))
  refine ⟨hM, fun x k1 k2 => ?_, hM.srt⟩
  exact permIn_all cur _ lo hi (fun z => ∃ m, lo ≤ m ∧ m < hi ∧ z = d[m]!) hs hM.perm (fun i k3 k4 => ⟨i, k3, k4, hr i k3⟩) x k1 k2

/-- Blocks of 20, up to a. -/
structure Blk20 (d cur : Array Cut) (n a : Nat) : Prop where
  sz : cur.size = n
  perm : PermIn 0 n d cur
  runs : ∀ lo, (∃ j, lo = j * 20) → lo < a → Run d cur lo (lo + 20)
  rest : ∀ x, a ≤ x → cur[x]! = d[x]!
  ha : ∃ j, a = j * 20
/-- All in runs of s. -/
structure Runs (s : Nat) (d cur : Array Cut) (n : Nat) : Prop where
  sz : cur.size = n
  perm : PermIn 0 n d cur
  runs : ∀ lo, (∃ j, lo = j * s) → lo < n → Run d cur lo (min (lo + s) n)
theorem Blk20.start {d : Array Cut} {n : Nat} (h : d.size = n) : Blk20 d d n 0 := ⟨h, permIn_refl d 0 n, fun lo _ h => by omega, fun _ _ => rfl, ⟨0, rfl⟩⟩
theorem perm_up {d cur cur' : Array Cut} {n lo hi : Nat} (hs : cur.size = n) (hn : hi ≤ n) (p : PermIn 0 n d cur) (h : PermIn lo hi cur cur') : PermIn 0 n d cur' :=
  permIn_trans _ _ _ _ _ p (permIn_mono _ _ _ _ _ _ (Nat.zero_le _) hn (by omega) h)
theorem Blk20.step {d cur : Array Cut} {n a b : Nat} (hA : Asc d n) (h : Blk20 d cur n a) (hb : b = a + 20) (hn : b ≤ n) : Blk20 d (Sort.insertionSort (ltOf cmpC) cur a b) n b := by
  obtain ⟨hM, hR⟩ := Run.ins hA hn (by rw [h.sz]; exact hn) (by omega) h.rest
  refine ⟨hM.perm.1.trans h.sz, perm_up h.sz hn h.perm hM.perm, fun lo hj hl => ?_, fun x hx => ?_, ?_⟩
  · obtain ⟨j, rfl⟩ := hj
    obtain ⟨i, hi⟩ := h.ha
    rcases Nat.lt_or_ge (j * 20) a with c | c
    · exact (h.runs _ ⟨j, rfl⟩ c).congr fun x h1 h2 => hM.perm.2.1 x (.inl (by omega))
    · rw [show j * 20 = a by omega, ← hb]; exact hR
  · rw [hM.perm.2.1 x (.inr hx)]
    exact h.rest x (by omega)
  · obtain ⟨i, hi⟩ := h.ha
    exact ⟨i + 1, by omega⟩
theorem Blk20.last {d cur : Array Cut} {n a : Nat} (hA : Asc d n) (h : Blk20 d cur n a) (ha : a ≤ n) (hn : n < a + 20) : Runs 20 d (Sort.insertionSort (ltOf cmpC) cur a n) n := by
  obtain ⟨hM, hR⟩ := Run.ins hA (Nat.le_refl n) (by rw [h.sz]; exact Nat.le_refl n) ha h.rest
  refine ⟨hM.perm.1.trans h.sz, perm_up h.sz (Nat.le_refl n) h.perm hM.perm, fun lo hj hl => ?_⟩
  obtain ⟨j, rfl⟩ := hj
  obtain ⟨i, hi⟩ := h.ha
  rcases Nat.lt_or_ge (j * 20) a with c | c
  · rw [Nat.min_eq_left (by omega)]
    exact (h.runs _ ⟨j, rfl⟩ c).congr fun x h1 h2 => hM.perm.2.1 x (.inl (by omega))
  · rw [Nat.min_eq_right (by omega), show j * 20 = a by omega]; exact hR

/-- Runs of 2 s up to a, of s behind it. -/
structure Half (s : Nat) (d cur : Array Cut) (n a : Nat) : Prop where
  sz : cur.size = n
  perm : PermIn 0 n d cur
  big : ∀ lo, (∃ j, lo = j * (2 * s)) → lo < a → lo < n → Run d cur lo (min (lo + 2 * s) n)
  sml : ∀ lo, (∃ j, lo = j * s) → a ≤ lo → lo < n → Run d cur lo (min (lo + s) n)
  ha : ∃ j, a = j * (2 * s)
theorem Runs.half {s : Nat} {d cur : Array Cut} {n : Nat} (h : Runs s d cur n) : Half s d cur n 0 := ⟨h.sz, h.perm, fun lo _ hl => by omega, fun lo hj _ hl => h.runs lo hj hl, ⟨0, by omega⟩⟩
theorem Half.parts {s : Nat} (hs : s = 20 ∨ s = 40) {d cur : Array Cut} {n a b : Nat} (h : Half s d cur n a) (hb : b = min (a + 2 * s) n) (hm : a + s < n) : Run d cur a (a + s) ∧ Run d cur (a + s) b := by
  obtain ⟨i, hi⟩ := h.ha
  have r1 := h.sml a (by rcases hs with rfl | rfl; exact ⟨i * 2, by omega⟩; exact ⟨i * 2, by omega⟩) (Nat.le_refl _) (by omega)
  have r2 := h.sml (a + s) (by rcases hs with rfl | rfl; exact ⟨i * 2 + 1, by omega⟩; exact ⟨i * 2 + 1, by omega⟩) (by omega) hm
  rw [Nat.min_eq_left (by omega)] at r1
  rw [show min (a + s + s) n = b by rw [hb]; congr 1; omega] at r2
  exact ⟨r1, r2⟩
theorem Half.two {s : Nat} (hs : s = 20 ∨ s = 40) {d cur : Array Cut} {n a m b : Nat} (hA : Asc d n) (h : Half s d cur n a) (hb : b = min (a + 2 * s) n) (hm : a + s = m) (hn : m < n) : Two a m b cur := by
  subst hm
  obtain ⟨r1, r2⟩ := h.parts hs hb hn
  exact Run.two hA (by omega) r1 r2
theorem Half.step {s : Nat} (hs : s = 20 ∨ s = 40) {d cur cur' : Array Cut} {n a b : Nat} (h : Half s d cur n a) (hb : b = a + 2 * s) (hn : b ≤ n) (hM : Mrg a b cur cur') : Half s d cur' n b := by
  obtain ⟨r1, r2⟩ := h.parts hs (b := b) (by omega) (by rcases hs with rfl | rfl <;> omega)
  have hR := Run.mrg (by rw [h.sz]; exact hn) (by omega) (by omega) r1 r2 hM
  have ha := h.ha
  refine ⟨hM.perm.1.trans h.sz, perm_up h.sz hn h.perm hM.perm, fun lo hj hl hl2 => ?_, fun lo hj hl hl2 => ?_, ?_⟩
  · rcases Nat.lt_or_ge lo a with c | c
    · refine (h.big _ hj c hl2).congr fun x h1 h2 => hM.perm.2.1 x (.inl ?_)
      obtain ⟨i, hi⟩ := ha
      obtain ⟨j, hj⟩ := hj
      rcases hs with rfl | rfl <;> omega
    · have e : lo = a := by
        obtain ⟨i, hi⟩ := ha
        obtain ⟨j, hj⟩ := hj
        rcases hs with rfl | rfl <;> omega
      subst e
      rw [Nat.min_eq_left (by omega), ← hb]
      exact hR
  · refine (h.sml _ hj (by omega) hl2).congr fun x h1 h2 => hM.perm.2.1 x (.inr (by omega))
  · obtain ⟨i, hi⟩ := ha
    refine ⟨i + 1, ?_⟩
    rcases hs with rfl | rfl <;> omega
theorem Half.last {s : Nat} (hs : s = 20 ∨ s = 40) {d cur cur' : Array Cut} {n a : Nat} (h : Half s d cur n a) (hm : a + s < n) (hn : n < a + 2 * s) (hM : Mrg a n cur cur') : Runs (2 * s) d cur' n := by
  obtain ⟨r1, r2⟩ := h.parts hs (b := n) (by omega) hm
  have hR := Run.mrg (by rw [h.sz]; exact Nat.le_refl n) (by omega) (by omega) r1 r2 hM
  have ha := h.ha
  refine ⟨hM.perm.1.trans h.sz, perm_up h.sz (Nat.le_refl n) h.perm hM.perm, fun lo hj hl => ?_⟩
  rcases Nat.lt_or_ge lo a with c | c
  · refine (h.big _ hj c hl).congr fun x h1 h2 => hM.perm.2.1 x (.inl ?_)
    obtain ⟨i, hi⟩ := ha
    obtain ⟨j, hj⟩ := hj
    rcases hs with rfl | rfl <;> omega
  · have e : lo = a := by
      obtain ⟨i, hi⟩ := ha
      obtain ⟨j, hj⟩ := hj
      rcases hs with rfl | rfl <;> omega
    subst e
    rw [Nat.min_eq_right (by omega)]
    exact hR
theorem Half.last_no {s : Nat} (hs : s = 20 ∨ s = 40) {d cur : Array Cut} {n a : Nat} (h : Half s d cur n a) (hm : n ≤ a + s) : Runs (2 * s) d cur n := by
  have ha := h.ha
  refine ⟨h.sz, h.perm, fun lo hj hl => ?_⟩
  rcases Nat.lt_or_ge lo a with c | c
  · exact h.big _ hj c hl
  · have hj2 : ∃ j, lo = j * s := by
      obtain ⟨j, hj⟩ := hj
      exact ⟨j * 2, by rcases hs with rfl | rfl <;> omega⟩
    have := h.sml lo hj2 c hl
    rw [Nat.min_eq_right (by omega)] at this
    rw [Nat.min_eq_right (by omega)]
    exact this
theorem Runs.sorted {s : Nat} {d cur : Array Cut} {n : Nat} (hd : d.size = n) (h : Runs s d cur n) (hn : n ≤ s) (h0 : 0 < n) : SortedOf d cur := by
  have r := h.runs 0 ⟨0, by omega⟩ h0
  rw [Nat.min_eq_right (by omega)] at r
  refine ⟨h.sz.trans hd.symm, fun x y h1 h2 => r.srt x y (Nat.zero_le _) h1 (by rw [← h.sz]; exact h2), ?_⟩
  have p := h.perm.2.2
  have e2 : ∀ x : Array Cut, x.size = n → x.extract 0 n = x := fun x h => by rw [← h]; simp
  rw [e2 _ h.sz, e2 _ hd] at p
  exact p

end Go.Proofs.Ytncodoaphfeefaa
