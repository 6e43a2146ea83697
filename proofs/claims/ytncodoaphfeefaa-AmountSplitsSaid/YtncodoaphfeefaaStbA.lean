/- Stable merging in place (blocks exchanged, rotated; two runs merged), plainly: no program in sight. -/
import Derived.Sort.LotA
namespace Go.Proofs.Ytncodoaphfeefaa
open Go.Sort
set_option linter.unusedVariables false
set_option linter.unusedSimpArgs false

section
variable {α : Type} [Inhabited α]
/-- n places from a on, changed for those from b on. -/
def swapR (d : Array α) (a b : Nat) : Nat → Array α
  | 0 => d
  | n + 1 => swp (swapR d a b n) (a + n) (b + n)
theorem swapR_size (d : Array α) (a b : Nat) : ∀ n, (swapR d a b n).size = d.size
  | 0 => rfl
  | n + 1 => by unfold swapR; rw [swp_size, swapR_size d a b n]
/-- Where a place's value came from. -/
def swI (a b n x : Nat) : Nat := if a ≤ x ∧ x < a + n then b + (x - a) else if b ≤ x ∧ x < b + n then a + (x - b) else x
theorem swapR_get (d : Array α) (a b : Nat) : ∀ n, a + n ≤ b → b + n ≤ d.size → ∀ x, (swapR d a b n)[x]! = d[swI a b n x]!
  | 0, _, _, x => by
    have : swI a b 0 x = x := by unfold swI; split <;> (try split) <;> omega
    rw [this]; rfl
  | n + 1, h1, h2, x => by
    have ih := swapR_get d a b n (by omega) (by omega)
    have hs := swapR_size d a b n
    show (swp (swapR d a b n) (a + n) (b + n))[x]! = _
    rw [swp_get _ (by omega) (by omega), ih, ih, ih]
    have e : (if x = b + n then swI a b n (a + n) else if x = a + n then swI a b n (b + n) else swI a b n x) = swI a b (n + 1) x := by
      unfold swI
      repeat' split
      all_goals omega
    rw [← e]
    split
    · rfl
    · split <;> rfl
theorem swapR_perm (d : Array α) (a b lo hi : Nat) : ∀ n, lo ≤ a → a + n ≤ hi → lo ≤ b → b + n ≤ hi → hi ≤ d.size → PermIn lo hi d (swapR d a b n)
  | 0, _, _, _, _, _ => permIn_refl d lo hi
  | n + 1, h1, h2, h3, h4, h5 => by
    have ih := swapR_perm d a b lo hi n h1 (by omega) h3 (by omega) h5
    refine permIn_trans _ _ _ _ _ ih ?_
    show PermIn lo hi _ (swp (swapR d a b n) (a + n) (b + n))
    exact swp_permIn _ _ _ _ _ (by omega) (by omega) (by omega) (by omega) (by rw [swapR_size]; exact h5)

/-- Where a place's value came from, where two blocks behind one another are rotated. -/
def rotI (a m b x : Nat) : Nat := if a ≤ x ∧ x < a + (b - m) then m + (x - a) else if a + (b - m) ≤ x ∧ x < b then a + (x - (a + (b - m))) else x
structure RotOf (d d' : Array α) (a m b : Nat) : Prop where
  perm : PermIn a b d d'
  get : ∀ x, d'[x]! = d[rotI a m b x]!
theorem rot_end (d : Array α) (m i : Nat) (h1 : i ≤ m) (h2 : m + i ≤ d.size) : RotOf d (swapR d (m - i) m i) (m - i) m (m + i) := by
  refine ⟨swapR_perm d _ _ _ _ i (by omega) (by omega) (by omega) (by omega) h2, fun x => ?_⟩
  rw [swapR_get d _ _ i (by omega) h2]
  have : swI (m - i) m i x = rotI (m - i) m (m + i) x := by
    unfold swI rotI
    repeat' split
    all_goals omega
  rw [this]
theorem rot_more (d d' : Array α) (m i j : Nat) (hij : j < i) (h1 : i ≤ m) (h2 : m + j ≤ d.size) (h : RotOf (swapR d (m - i) m j) d' (m - (i - j)) m (m + j)) : RotOf d d' (m - i) m (m + j) := by
  refine ⟨permIn_trans _ _ _ _ _ (swapR_perm d _ _ (m - i) (m + j) j (by omega) (by omega) (by omega) (by omega) h2) (permIn_mono _ _ _ _ _ _ (by omega) (by omega) (by rw [swapR_size]; omega) h.perm), fun x => ?_⟩
  rw [h.get, swapR_get d _ _ j (by omega) h2]
  have : swI (m - i) m j (rotI (m - (i - j)) m (m + j) x) = rotI (m - i) m (m + j) x := by
    unfold swI rotI
    repeat' split
    all_goals omega
  rw [this]
theorem rot_less (d d' : Array α) (m i j : Nat) (hij : i < j) (h1 : i ≤ m) (h2 : m + j ≤ d.size) (h : RotOf (swapR d (m - i) (m + j - i) i) d' (m - i) m (m + (j - i))) : RotOf d d' (m - i) m (m + j) := by
  refine ⟨permIn_trans _ _ _ _ _ (swapR_perm d _ _ (m - i) (m + j) i (by omega) (by omega) (by omega) (by omega) h2) (permIn_mono _ _ _ _ _ _ (by omega) (by omega) (by rw [swapR_size]; omega) h.perm), fun x => ?_⟩
  rw [h.get, swapR_get d _ _ i (by omega) (by omega)]
  have : swI (m - i) (m + j - i) i (rotI (m - i) m (m + (j - i)) x) = rotI (m - i) m (m + j) x := by
    unfold swI rotI
    repeat' split
    all_goals omega
  rw [this]
end

/-- Cuts: a place, and a weight: the greater weight is ahead, of like ones the lesser place. -/
def lxC (x y : Nat × Nat) : Prop := y.2 < x.2 ∨ (x.2 = y.2 ∧ x.1 < y.1)
theorem lxC_trans {x y z : Nat × Nat} (h : lxC x y) (k : lxC y z) : lxC x z := by unfold lxC at *; omega
def Srt (a b : Nat) (d : Array (Nat × Nat)) : Prop := ∀ x y, a ≤ x → x < y → y < b → lxC d[x]! d[y]!
/-- All of the left run were ahead of all of the right one. -/
def Lft (a m b : Nat) (d : Array (Nat × Nat)) : Prop := ∀ x y, a ≤ x → x < m → m ≤ y → y < b → (d[x]!).1 < (d[y]!).1
structure Two (a m b : Nat) (d : Array (Nat × Nat)) : Prop where
  l : Srt a m d
  r : Srt m b d
  lr : Lft a m b d
/-- What a merge is to do. -/
structure Mrg (a b : Nat) (d d' : Array (Nat × Nat)) : Prop where
  perm : PermIn a b d d'
  srt : Srt a b d'
theorem Srt.le {a b x y : Nat} {d : Array (Nat × Nat)} (h : Srt a b d) (h1 : a ≤ x) (h2 : x ≤ y) (h3 : y < b) : x = y ∨ lxC d[x]! d[y]! := by
  rcases Nat.lt_or_ge x y with k | k
  · exact .inr (h x y h1 k h3)
  · exact .inl (by omega)
/-- The place that the search finds: 's' of the left run and 'n - s' of both are parted. -/
structure Cutp (a m b mid s : Nat) (d : Array (Nat × Nat)) : Prop where
  h1 : a ≤ s
  h2 : s ≤ m
  h3 : m ≤ mid + m - s
  h4 : mid + m - s ≤ b
  h5 : s ≤ mid
  lo : a < s → mid + m - s < b → lxC d[s - 1]! d[mid + m - s]!
  hi : s < m → m < mid + m - s → lxC d[mid + m - s - 1]! d[s]!
/-- Behind the rotation: the two halves, each of two runs, the one ahead of the other. -/
structure Halves (a m b mid s : Nat) (d : Array (Nat × Nat)) : Prop where
  one : Two a s mid d
  two : Two mid (mid + m - s) b d
  cross : ∀ x y, a ≤ x → x < mid → mid ≤ y → y < b → lxC d[x]! d[y]!
theorem halves {a m b mid s : Nat} {d d' : Array (Nat × Nat)} (hm : a ≤ mid) (hmb : mid ≤ b) (h : Two a m b d) (hc : Cutp a m b mid s d) (hr : RotOf d d' s m (mid + m - s)) : Halves a m b mid s d' := by
  obtain ⟨h1, h2, h3, h4, h5, hlo, hhi⟩ := hc
  have hg := hr.get
  have xl : ∀ x y, a ≤ x → x < s → m ≤ y → y < mid + m - s → (d[x]!).1 < (d[y]!).1 := fun x y k1 k2 k3 k4 => h.lr x y k1 (by omega) k3 (by omega)
  -- where the places of the two halves came from
  have p1 : ∀ x, x < s → rotI s m (mid + m - s) x = x := fun x k => by unfold rotI; (repeat' split) <;> omega
  have p2 : ∀ x, s ≤ x → x < mid → rotI s m (mid + m - s) x = m + (x - s) := fun x k k' => by unfold rotI; (repeat' split) <;> omega
  have p3 : ∀ x, mid ≤ x → x < mid + m - s → rotI s m (mid + m - s) x = s + (x - mid) := fun x k k' => by unfold rotI; (repeat' split) <;> omega
  have p4 : ∀ x, mid + m - s ≤ x → rotI s m (mid + m - s) x = x := fun x k => by unfold rotI; (repeat' split) <;> omega
  refine ⟨⟨fun x y k1 k2 k3 => ?_, fun x y k1 k2 k3 => ?_, fun x y k1 k2 k3 k4 => ?_⟩, ⟨fun x y k1 k2 k3 => ?_, fun x y k1 k2 k3 => ?_, fun x y k1 k2 k3 k4 => ?_⟩, fun x y k1 k2 k3 k4 => ?_⟩
  · rw [hg, hg, p1 x (by omega), p1 y (by omega)]; exact h.l x y k1 k2 (by omega)
  · rw [hg, hg, p2 x k1 (by omega), p2 y (by omega) k3]; exact h.r _ _ (by omega) (by omega) (by omega)
  · rw [hg, hg, p1 x k2, p2 y k3 k4]; exact h.lr _ _ k1 (by omega) (by omega) (by omega)
  · rw [hg, hg, p3 x k1 (by omega), p3 y (by omega) (by omega)]; exact h.l _ _ (by omega) (by omega) (by omega)
  · rw [hg, hg, p4 x k1, p4 y (by omega)]; exact h.r _ _ (by omega) k2 k3
  · rw [hg, hg, p3 x k1 k2, p4 y k3]; exact h.lr _ _ (by omega) (by omega) (by omega) k4
  · rcases Nat.lt_or_ge x s with c1 | c1
    · rw [hg x, p1 x c1]
      rcases Nat.lt_or_ge y (mid + m - s) with c2 | c2
      · rw [hg y, p3 y k3 c2]; exact h.l _ _ k1 (by omega) (by omega)
      · rw [hg y, p4 y c2]
        have q1 := hlo (by omega) (by omega)
        have q2 := h.l.le (x := x) (y := s - 1) k1 (by omega) (by omega)
        have q3 := h.r.le (x := mid + m - s) (y := y) (by omega) c2 k4
        rcases q2 with e | q2
        · rw [e]
          rcases q3 with e' | q3
          · rw [← e']; exact q1
          · exact lxC_trans q1 q3
        · rcases q3 with e' | q3
          · rw [← e']; exact lxC_trans q2 q1
          · exact lxC_trans q2 (lxC_trans q1 q3)
    · rw [hg x, p2 x c1 k2]
      rcases Nat.lt_or_ge y (mid + m - s) with c2 | c2
      · rw [hg y, p3 y k3 c2]
        have q1 := hhi (by omega) (by omega)
        have q2 := h.r.le (x := m + (x - s)) (y := mid + m - s - 1) (by omega) (by omega) (by omega)
        have q3 := h.l.le (x := s) (y := s + (y - mid)) h1 (by omega) (by omega)
        rcases q2 with e | q2
        · rw [e]
          rcases q3 with e' | q3
          · rw [← e']; exact q1
          · exact lxC_trans q1 q3
        · rcases q3 with e' | q3
          · rw [← e']; exact lxC_trans q2 q1
          · exact lxC_trans q2 (lxC_trans q1 q3)
      · rw [hg y, p4 y c2]; exact h.r _ _ (by omega) (by omega) k4

/-- Both halves merged: the whole is. -/
theorem Halves.one_done {a m b mid s : Nat} {d d1 : Array (Nat × Nat)} (hd : b ≤ d.size) (ha : a ≤ mid) (hb : mid ≤ b) (hsm : s ≤ m) (h : Halves a m b mid s d) (h1 : Mrg a mid d d1) : Two mid (mid + m - s) b d1 ∧ Srt a mid d1 ∧ ∀ x y, a ≤ x → x < mid → mid ≤ y → y < b → lxC d1[x]! d1[y]! := by
  have hk : ∀ y, mid ≤ y → d1[y]! = d[y]! := fun y hy => h1.perm.2.1 y (.inr hy)
  refine ⟨⟨fun x y k1 k2 k3 => ?_, fun x y k1 k2 k3 => ?_, fun x y k1 k2 k3 k4 => ?_⟩, h1.srt, fun x y k1 k2 k3 k4 => ?_⟩
  · rw [hk x k1, hk y (by omega)]; exact h.two.l x y k1 k2 k3
  · rw [hk x (by omega), hk y (by omega)]; exact h.two.r x y k1 k2 k3
  · rw [hk x k1, hk y (by omega)]; exact h.two.lr x y k1 k2 k3 k4
  · rw [hk y k3]
    exact permIn_all d d1 a mid (fun z => lxC z d[y]!) (by omega) h1.perm (fun i hi hi2 => h.cross i y hi hi2 k3 k4) x k1 k2
theorem merge_done {a b mid : Nat} {d1 d2 : Array (Nat × Nat)} (hd : b ≤ d1.size) (ha : a ≤ mid) (hb : mid ≤ b) (hs : Srt a mid d1) (hx : ∀ x y, a ≤ x → x < mid → mid ≤ y → y < b → lxC d1[x]! d1[y]!) (h2 : Mrg mid b d1 d2) : Mrg a b d1 d2 := by
  have hk : ∀ x, x < mid → d2[x]! = d1[x]! := fun x hx => h2.perm.2.1 x (.inl hx)
  refine ⟨permIn_mono _ _ _ _ _ _ ha (Nat.le_refl _) hd h2.perm, fun x y k1 k2 k3 => ?_⟩
  rcases Nat.lt_or_ge y mid with c | c
  · rw [hk x (by omega), hk y c]; exact hs x y k1 k2 c
  · rcases Nat.lt_or_ge x mid with c2 | c2
    · rw [hk x c2]
      exact permIn_all d1 d2 mid b (fun z => lxC d1[x]! z) hd h2.perm (fun i hi hi2 => hx x i k1 c2 hi hi2) y c k3
    · exact h2.srt x y c2 k2 k3

/-- The value at one end brought to the other end, place by place. -/
def shl (d : Array (Nat × Nat)) (a : Nat) : Nat → Array (Nat × Nat)
  | 0 => d
  | n + 1 => swp (shl d a n) (a + n) (a + n + 1)
theorem shl_size (d : Array (Nat × Nat)) (a : Nat) : ∀ n, (shl d a n).size = d.size
  | 0 => rfl
  | n + 1 => by unfold shl; rw [swp_size, shl_size d a n]
theorem shl_get (d : Array (Nat × Nat)) (a : Nat) : ∀ n, a + n < d.size → ∀ x, (shl d a n)[x]! = if a ≤ x ∧ x < a + n then d[x + 1]! else if x = a + n then d[a]! else d[x]!
  | 0, _, x => by
    show d[x]! = _
    rw [if_neg (by omega)]
    split
    · rename_i h; rw [h]; rfl
    · rfl
  | n + 1, h, x => by
    have ih := shl_get d a n (by omega)
    have hs := shl_size d a n
    show (swp (shl d a n) (a + n) (a + n + 1))[x]! = _
    rw [swp_get _ (by omega) (by omega), ih, ih, ih]
    by_cases c1 : x = a + n + 1
    · rw [if_pos c1, if_neg (by omega), if_pos rfl, if_neg (by omega), if_pos (by omega)]
    · rw [if_neg c1]
      by_cases c2 : x = a + n
      · rw [if_pos c2, if_neg (by omega), if_neg (by omega), if_pos (by omega), c2]
      · rw [if_neg c2]
        by_cases c3 : a ≤ x ∧ x < a + n
        · rw [if_pos c3, if_pos (by omega)]
        · rw [if_neg c3, if_neg c2, if_neg (by omega), if_neg (by omega)]
theorem shl_perm (d : Array (Nat × Nat)) (a lo hi : Nat) : ∀ n, lo ≤ a → a + n < hi → hi ≤ d.size → PermIn lo hi d (shl d a n)
  | 0, _, _, _ => permIn_refl d lo hi
  | n + 1, h1, h2, h3 => by
    refine permIn_trans _ _ _ _ _ (shl_perm d a lo hi n h1 (by omega) h3) ?_
    show PermIn lo hi _ (swp (shl d a n) (a + n) (a + n + 1))
    exact swp_permIn _ _ _ _ _ (by omega) (by omega) (by omega) (by omega) (by rw [shl_size]; exact h3)
/-- One value on the left: it goes ahead of the first one that it is ahead of. -/
theorem left_one {a b i : Nat} {d : Array (Nat × Nat)} (hd : b ≤ d.size) (h : Two a (a + 1) b d) (h1 : a + 1 ≤ i) (h2 : i ≤ b) (hlo : a + 1 < i → lxC d[i - 1]! d[a]!) (hhi : i < b → lxC d[a]! d[i]!) : Mrg a b d (shl d a (i - 1 - a)) := by
  refine ⟨shl_perm d a a b _ (Nat.le_refl _) (by omega) hd, fun x y k1 k2 k3 => ?_⟩
  have hg := shl_get d a (i - 1 - a) (by omega)
  rw [hg, hg]
  have lo : ∀ x, a + 1 ≤ x → x < i → lxC d[x]! d[a]! := fun x q1 q2 => by
    rcases h.r.le (x := x) (y := i - 1) q1 (by omega) (by omega) with e | q
    · rw [e]; exact hlo (by omega)
    · exact lxC_trans q (hlo (by omega))
  have hi : ∀ y, i ≤ y → y < b → lxC d[a]! d[y]! := fun y q1 q2 => by
    rcases h.r.le (x := i) (y := y) (by omega) q1 q2 with e | q
    · rw [← e]; exact hhi (by omega)
    · exact lxC_trans (hhi (by omega)) q
  by_cases c1 : a ≤ x ∧ x < a + (i - 1 - a)
  · rw [if_pos c1]
    by_cases c2 : a ≤ y ∧ y < a + (i - 1 - a)
    · rw [if_pos c2]; exact h.r _ _ (by omega) (by omega) (by omega)
    · rw [if_neg c2]
      by_cases c3 : y = a + (i - 1 - a)
      · rw [if_pos c3]; exact lo _ (by omega) (by omega)
      · rw [if_neg c3]; exact h.r _ _ (by omega) (by omega) k3
  · rw [if_neg c1, if_neg (show ¬ (a ≤ y ∧ y < a + (i - 1 - a)) by omega), if_neg (show ¬ y = a + (i - 1 - a) by omega)]
    by_cases c3 : x = a + (i - 1 - a)
    · rw [if_pos c3]; exact hi y (by omega) k3
    · rw [if_neg c3]; exact h.r _ _ (by omega) k2 k3
/-- The value at the right end brought to the left, place by place. -/
def shr (d : Array (Nat × Nat)) (m : Nat) : Nat → Array (Nat × Nat)
  | 0 => d
  | n + 1 => swp (shr d m n) (m - n) (m - n - 1)
theorem shr_size (d : Array (Nat × Nat)) (m : Nat) : ∀ n, (shr d m n).size = d.size
  | 0 => rfl
  | n + 1 => by unfold shr; rw [swp_size, shr_size d m n]
theorem shr_get (d : Array (Nat × Nat)) (m : Nat) : ∀ n, n ≤ m → m < d.size → ∀ x, (shr d m n)[x]! = if m - n < x ∧ x ≤ m then d[x - 1]! else if x = m - n then d[m]! else d[x]!
  | 0, _, _, x => by
    show d[x]! = _
    rw [if_neg (by omega)]
    split
    · rename_i h; rw [h]; rfl
    · rfl
  | n + 1, h0, h, x => by
    have ih := shr_get d m n (by omega) h
    have hs := shr_size d m n
    show (swp (shr d m n) (m - n) (m - n - 1))[x]! = _
    rw [swp_get _ (by omega) (by omega), ih, ih, ih]
    by_cases c1 : x = m - n - 1
    · rw [if_pos c1, if_neg (by omega), if_pos rfl, if_neg (by omega), if_pos (by omega)]
    · rw [if_neg c1]
      by_cases c2 : x = m - n
      · rw [if_pos c2, if_neg (by omega), if_neg (by omega), if_pos (by omega), c2]
      · rw [if_neg c2]
        by_cases c3 : m - n < x ∧ x ≤ m
        · rw [if_pos c3, if_pos (by omega)]
        · rw [if_neg c3, if_neg c2, if_neg (by omega), if_neg (by omega)]
theorem shr_perm (d : Array (Nat × Nat)) (m lo hi : Nat) : ∀ n, lo + n ≤ m → m < hi → hi ≤ d.size → PermIn lo hi d (shr d m n)
  | 0, _, _, _ => permIn_refl d lo hi
  | n + 1, h1, h2, h3 => by
    refine permIn_trans _ _ _ _ _ (shr_perm d m lo hi n (by omega) h2 h3) ?_
    show PermIn lo hi _ (swp (shr d m n) (m - n) (m - n - 1))
    exact swp_permIn _ _ _ _ _ (by omega) (by omega) (by omega) (by omega) (by rw [shr_size]; exact h3)
/-- One value on the right: it goes behind the last one that is ahead of it. -/
theorem right_one {a m i : Nat} {d : Array (Nat × Nat)} (hd : m + 1 ≤ d.size) (h : Two a m (m + 1) d) (h1 : a ≤ i) (h2 : i ≤ m) (hlo : a < i → lxC d[i - 1]! d[m]!) (hhi : i < m → lxC d[m]! d[i]!) : Mrg a (m + 1) d (shr d m (m - i)) := by
  refine ⟨shr_perm d m a (m + 1) _ (by omega) (by omega) hd, fun x y k1 k2 k3 => ?_⟩
  have hg := shr_get d m (m - i) (by omega) (by omega)
  rw [hg, hg]
  have lo : ∀ x, a ≤ x → x < i → lxC d[x]! d[m]! := fun x q1 q2 => by
    rcases h.l.le (x := x) (y := i - 1) q1 (by omega) (by omega) with e | q
    · rw [e]; exact hlo (by omega)
    · exact lxC_trans q (hlo (by omega))
  have hi : ∀ y, i ≤ y → y < m → lxC d[m]! d[y]! := fun y q1 q2 => by
    rcases h.l.le (x := i) (y := y) h1 q1 q2 with e | q
    · rw [← e]; exact hhi (by omega)
    · exact lxC_trans (hhi (by omega)) q
  have e0 : m - (m - i) = i := by omega
  rw [e0]
  by_cases c1 : i < x ∧ x ≤ m
  · rw [if_pos c1, if_pos (show i < y ∧ y ≤ m by omega)]
    exact h.l _ _ (by omega) (by omega) (by omega)
  · rw [if_neg c1]
    by_cases c2 : i < y ∧ y ≤ m
    · rw [if_pos c2]
      by_cases c3 : x = i
      · rw [if_pos c3]; exact hi _ (by omega) (by omega)
      · rw [if_neg c3]; exact h.l _ _ k1 (by omega) (by omega)
    · rw [if_neg c2, if_neg (show ¬ x = i by omega)]
      by_cases c3 : y = i
      · rw [if_pos c3]; exact lo x k1 (by omega)
      · rw [if_neg c3]; exact h.l _ _ k1 k2 (by omega)

end Go.Proofs.Ytncodoaphfeefaa
