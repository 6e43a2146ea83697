/- Heaps, plainly: keys at places, sifting down and up. No program. -/
import Derived.Test.YtgcncnmkfpfccaaFacA
namespace Go.Proofs.Ytgcncnmkfpfccaa
set_option linter.unusedVariables false
set_option linter.unusedSimpArgs false

theorem ltK_asym {a b : KD} (h : ltK a b) : ¬ ltK b a := by unfold ltK at *; omega
theorem ltK_neg {a b c : KD} (h : ¬ ltK a b) (k : ¬ ltK b c) : ¬ ltK a c := by unfold ltK at *; omega
theorem ltK_neg_lt {a b c : KD} (h : ¬ ltK a b) (k : ltK c b) : ¬ ltK a c := fun e => h (ltK_trans e k)
/-- A place is in order with the one above it. -/
def okH (g : Nat → KD) (c : Nat) : Prop := ¬ ltK (g c) (g ((c - 1) / 2))
def HeapG (g : Nat → KD) (n : Nat) : Prop := ∀ c, 0 < c → c < n → okH g c
def swG (g : Nat → KD) (i k : Nat) : Nat → KD := fun j => if j = k then g i else if j = i then g k else g j
theorem swG_i {g : Nat → KD} {i k : Nat} : swG g i k i = if i = k then g i else g k := by
  unfold swG
  by_cases h : i = k
  · rw [if_pos h, if_pos h]
  · rw [if_neg h, if_neg h, if_pos rfl]
theorem swG_l {g : Nat → KD} {i k : Nat} (h : i ≠ k) : swG g i k i = g k := by unfold swG; rw [if_neg h, if_pos rfl]
theorem swG_r {g : Nat → KD} {i k : Nat} : swG g i k k = g i := by unfold swG; rw [if_pos rfl]
theorem swG_o {g : Nat → KD} {i k j : Nat} (h1 : j ≠ i) (h2 : j ≠ k) : swG g i k j = g j := by unfold swG; rw [if_neg h2, if_neg h1]

/-- Sifting down: all in order but place i. -/
structure DnG (g : Nat → KD) (n i : Nat) (m : Prop) : Prop where
  a : ∀ c, 0 < c → c < n → (c ≠ i ∨ m) → (c - 1) / 2 ≠ i → okH g c
  b : 0 < i → ∀ c, 0 < c → c < n → (c - 1) / 2 = i → ¬ ltK (g c) (g ((i - 1) / 2))
/-- Sifting up: all in order but place j. -/
structure UpG (g : Nat → KD) (n j : Nat) : Prop where
  a : ∀ c, 0 < c → c < n → c ≠ j → okH g c
  b : 0 < j → ∀ c, 0 < c → c < n → (c - 1) / 2 = j → ¬ ltK (g c) (g ((j - 1) / 2))
theorem DnG.step {g : Nat → KD} {n i j : Nat} {m : Prop} (h : DnG g n i m) (hj : 0 < j) (hjn : j < n) (hp : (j - 1) / 2 = i) (hlt : ltK (g j) (g i)) (hmin : ∀ c, 0 < c → c < n → (c - 1) / 2 = i → ¬ ltK (g c) (g j)) : DnG (swG g i j) n j True := by
  have hij : i ≠ j := by omega
  refine ⟨fun c h0 hn _ hc => ?_, fun _ c h0 hn hc => ?_⟩
  · unfold okH
    by_cases e1 : c = j
    · subst e1
      rw [hp, swG_r, swG_l hij]
      exact ltK_asym hlt
    · by_cases e2 : (c - 1) / 2 = i
      · rw [e2, swG_l hij, swG_o (by omega) e1]
        exact hmin c h0 hn e2
      · by_cases e3 : c = i
        · subst e3
          rw [swG_l hij, swG_o (by omega) (by omega)]
          exact h.b h0 j hj hjn hp
        · rw [swG_o e3 e1, swG_o e2 hc]
          exact h.a c h0 hn (Or.inl e3) e2
  · rw [hp, swG_l hij, swG_o (by omega) (by omega)]
    have := h.a c h0 hn (Or.inl (by omega)) (by omega)
    unfold okH at this
    rwa [hc] at this
theorem DnG.fin {g : Nat → KD} {n i : Nat} {m : Prop} (h : DnG g n i m) (hc : ∀ c, 0 < c → c < n → (c - 1) / 2 = i → ¬ ltK (g c) (g i)) : ∀ c, 0 < c → c < n → (c ≠ i ∨ m) → okH g c := fun c h0 hn hm => by
  by_cases e : (c - 1) / 2 = i
  · unfold okH
    rw [e]
    exact hc c h0 hn e
  · exact h.a c h0 hn hm e
theorem UpG.step {g : Nat → KD} {n j : Nat} (h : UpG g n j) (hj : 0 < j) (hjn : j < n) (hlt : ltK (g j) (g ((j - 1) / 2))) : UpG (swG g ((j - 1) / 2) j) n ((j - 1) / 2) := by
  obtain ⟨i, hi⟩ : ∃ i, (j - 1) / 2 = i := ⟨_, rfl⟩
  rw [hi] at hlt ⊢
  have hij : i ≠ j := by omega
  refine ⟨fun c h0 hn hc => ?_, fun hi0 c h0 hn hc => ?_⟩
  · unfold okH
    by_cases e1 : c = j
    · subst e1
      rw [hi, swG_r, swG_l hij]
      exact ltK_asym hlt
    · by_cases e2 : (c - 1) / 2 = i
      · rw [e2, swG_l hij, swG_o hc e1]
        have := h.a c h0 hn e1
        unfold okH at this
        rw [e2] at this
        exact ltK_neg_lt this hlt
      · by_cases e3 : (c - 1) / 2 = j
        · rw [e3, swG_r, swG_o hc e1]
          have := h.b hj c h0 hn e3
          rwa [hi] at this
        · rw [swG_o hc e1, swG_o e2 e3]
          exact h.a c h0 hn e1
  · have hio := h.a i hi0 (by omega) hij
    unfold okH at hio
    rw [swG_o (i := i) (k := j) (j := (i - 1) / 2) (by omega) (by omega)]
    by_cases e1 : c = j
    · subst e1
      rw [swG_r]
      exact hio
    · rw [swG_o (by omega) e1]
      have := h.a c h0 hn e1
      unfold okH at this
      rw [hc] at this
      exact ltK_neg this hio
theorem UpG.fin {g : Nat → KD} {n j : Nat} (h : UpG g n j) (hj : 0 < j → ¬ ltK (g j) (g ((j - 1) / 2))) : HeapG g n := fun c h0 hn => by
  by_cases e : c = j
  · subst e
    exact hj h0
  · exact h.a c h0 hn e
theorem HeapG.min {g : Nat → KD} {n : Nat} (h : HeapG g n) : ∀ j, j < n → ¬ ltK (g j) (g 0) := by
  intro j
  induction j using Nat.strongRecOn with
  | ind j ih =>
    intro hj
    by_cases e : j = 0
    · subst e; exact ltK_irrefl _
    · exact ltK_neg (h j (by omega) hj) (ih ((j - 1) / 2) (by omega) (by omega))
/-- A place is changed: down, or up. -/
theorem HeapG.change {g g' : Nat → KD} {n n' i : Nat} (h : HeapG g n) (hn : n' ≤ n) (he : ∀ j, j < n' → j ≠ i → g' j = g j) : DnG g' n' i False := by
  refine ⟨fun c h0 hc hm hp => ?_, fun hi c h0 hc hp => ?_⟩
  · have hci : c ≠ i := hm.resolve_right (fun h => h)
    unfold okH
    rw [he c hc hci, he _ (by omega) hp]
    exact h c h0 (by omega)
  · have h1 := h c h0 (by omega)
    have h2 := h i hi (by omega)
    unfold okH at h1 h2
    rw [hp] at h1
    rw [he c hc (by omega), he _ (by omega) (by omega)]
    exact ltK_neg h1 h2
theorem DnG.up {g : Nat → KD} {n i : Nat} (h : DnG g n i False) (hf : ∀ c, 0 < c → c < n → c ≠ i → okH g c) : UpG g n i := ⟨hf, h.b⟩
theorem HeapG.push {g g' : Nat → KD} {n : Nat} (h : HeapG g n) (he : ∀ j, j < n → g' j = g j) : UpG g' (n + 1) n := by
  refine ⟨fun c h0 hc hn => ?_, fun _ c h0 hc hp => by omega⟩
  unfold okH
  rw [he c (by omega), he _ (by omega)]
  exact h c h0 (by omega)
theorem HeapG.mono {g g' : Nat → KD} {n n' : Nat} (h : HeapG g n) (hn : n' ≤ n) (he : ∀ j, j < n' → g' j = g j) : HeapG g' n' := fun c h0 hc => by
  unfold okH
  rw [he c hc, he _ (by omega)]
  exact h c h0 (by omega)

end Go.Proofs.Ytgcncnmkfpfccaa
