/- AgendaMoves, plainly. -/
import Derived.Test.YtgcncnmkfpfccaaAgX
namespace Go.Proofs.Ytgcncnmkfpfccaa
open Go.RowKit Go.Sort Go.Shelf
set_option linter.unusedVariables false
set_option linter.unusedSimpArgs false

def Days (S : List It) : Prop := ∀ x ∈ S, dayB x.d = true
theorem takeS_mem {S : List It} {d : Int} {x : It} (h : x ∈ takeS S d) : x ∈ S := by
  cases S with
  | nil => exact h
  | cons y S =>
    unfold takeS at h
    dsimp only at h
    split at h
    · exact h
    · exact List.mem_cons_of_mem _ h
theorem dropS_mem {S : List It} {n : Int} {x : It} (h : x ∈ dropS S n) : x ∈ S := (List.mem_filter.1 h).1
theorem opS_days {S : List It} {N a d n : Int} (h : Days S) (hr : Rising It.ky S) : Days (opS S N a d n) := by
  intro x hx
  unfold opS at hx
  split at hx
  · split at hx
    · rcases (putK_mem hr).1 hx with rfl | hx
      · assumption
      · exact h x hx.1
    · exact h x hx
  · split at hx
    · exact h x (takeS_mem hx)
    · split at hx
      · exact h x (dropS_mem hx)
      · unfold moveS at hx
        split at hx
        · exact h x hx
        · split at hx
          · rcases (putK_mem (drop_rising hr n)).1 hx with rfl | hx
            · assumption
            · exact h x (dropS_mem hx.1)
          · exact h x hx
/-- An item that is moved: where it stands then, all others standing as they did. -/
theorem putK_split {S : List It} {x : It} (h : Rising It.ky S) (hx : ∀ z ∈ S, z.ky ≠ x.ky) : ∃ p, p ≤ S.length ∧ putK It.ky S x = S.take p ++ x :: S.drop p := by
  induction S with
  | nil => exact ⟨0, Nat.le_refl _, rfl⟩
  | cons y S ih =>
    unfold putK
    split
    · exact ⟨0, Nat.zero_le _, rfl⟩
    · split
      · rename_i e
        exact absurd e (hx y List.mem_cons_self)
      · obtain ⟨p, hp, e⟩ := ih (List.pairwise_cons.1 h).2 (fun z hz => hx z (List.mem_cons_of_mem _ hz))
        exact ⟨p + 1, by simp; omega, by rw [e]; rfl⟩
theorem dropS_at {S : List It} (hn : Nos S) {o : Nat} {x : It} (hx : S[o]? = some x) : dropS S x.n = S.take o ++ S.drop (o + 1) := by
  obtain ⟨hlt, he⟩ := List.getElem?_eq_some_iff.1 hx
  have e : S = S.take o ++ x :: S.drop (o + 1) := by rw [← he, ← List.drop_eq_getElem_cons hlt, List.take_append_drop]
  have hn' : Nos (S.take o ++ x :: S.drop (o + 1)) := by rw [← e]; exact hn
  unfold Nos at hn'
  rw [List.map_append, List.map_cons, List.nodup_append] at hn'
  obtain ⟨h1, h2, h3⟩ := hn'
  rw [List.nodup_cons] at h2
  conv => lhs; rw [e]
  unfold dropS
  rw [List.filter_append, List.filter_cons_of_neg (by simp)]
  congr 1
  · refine List.filter_eq_self.2 fun z hz => ?_
    have := h3 z.n (List.mem_map_of_mem hz) x.n List.mem_cons_self
    simpa using this
  · refine List.filter_eq_self.2 fun z hz => ?_
    simp only [ne_eq, decide_not, Bool.not_eq_true', decide_eq_false_iff_not]
    intro e'
    exact h2.1 (by rw [← e']; exact List.mem_map_of_mem hz)
theorem getO_at {S : List It} (hn : Nos S) {o : Nat} {x : It} (hx : S[o]? = some x) : getO S x.n = some x := by
  have hm := List.mem_of_getElem? hx
  cases ho : getO S x.n with
  | none => exact absurd rfl (getO_none.1 ho x hm)
  | some z =>
    obtain ⟨hz, e⟩ := getO_some ho
    rw [nos_mem hn hz hm e]
theorem putD_mem {S : List It} (hr : Rising It.ky S) {y : It} {z : It} : z ∈ putK It.ky (dropS S y.n) y ↔ z = y ∨ z ∈ dropS S y.n :=
  (putK_new (drop_rising hr y.n) (fun z hz e => drop_no hz (by simp [It.ky] at e; exact e.2))).mem_iff.trans List.mem_cons
theorem move_there {S : List It} (hr : Rising It.ky S) (hn : Nos S) {o : Nat} {x : It} (hx : S[o]? = some x) {day : Int} (hd : dayB day = true) :
    moveE S x.n day = 0 ∧ moveS S x.n day = putK It.ky (dropS S x.n) ⟨day, x.n, x.t⟩ ∧ ∃ p, p ≤ (S.take o ++ S.drop (o + 1)).length ∧ moveS S x.n day = (S.take o ++ S.drop (o + 1)).take p ++ ⟨day, x.n, x.t⟩ :: (S.take o ++ S.drop (o + 1)).drop p := by
  have hg := getO_at hn hx
  have e : moveS S x.n day = putK It.ky (dropS S x.n) ⟨day, x.n, x.t⟩ := by
    unfold moveS
    rw [hg]
    dsimp only
    rw [if_pos hd]
  refine ⟨?_, e, ?_⟩
  · unfold moveE
    rw [hg]
    simp [hd]
  · obtain ⟨p, hp, e2⟩ := putK_split (x := ⟨day, x.n, x.t⟩) (drop_rising hr x.n) (fun z hz e => drop_no hz (by simp [It.ky] at e; exact e.2))
    rw [e, e2, ← dropS_at hn hx]
    exact ⟨p, hp, rfl⟩
theorem move_back {S : List It} (hr : Rising It.ky S) (hn : Nos S) {o : Nat} {x : It} (hx : S[o]? = some x) {day : Int} (hd : dayB day = true) (hd' : dayB x.d = true) (hn' : Nos (moveS S x.n day)) :
    moveE (moveS S x.n day) x.n x.d = 0 ∧ moveS (moveS S x.n day) x.n x.d = S := by
  obtain ⟨_, e, _⟩ := move_there hr hn hx hd
  have hr' : Rising It.ky (moveS S x.n day) := by rw [e]; exact putK_rising (drop_rising hr _)
  have hm : ∀ z, z ∈ moveS S x.n day ↔ z = ⟨day, x.n, x.t⟩ ∨ z ∈ dropS S x.n := fun z => by rw [e]; exact putD_mem (y := ⟨day, x.n, x.t⟩) hr
  obtain ⟨q, hq⟩ := List.mem_iff_getElem?.1 ((hm _).2 (.inl rfl))
  obtain ⟨e1, e2, _⟩ := move_there hr' hn' hq hd'
  refine ⟨e1, ?_⟩
  dsimp only at e2
  rw [e2]
  have hD : dropS (moveS S x.n day) x.n = dropS S x.n := by
    refine rising_ext (drop_rising hr' _) (drop_rising hr _) fun z => ?_
    constructor
    · intro hz
      rcases (hm z).1 (dropS_mem hz) with rfl | h
      · exact absurd rfl (drop_no hz)
      · exact h
    · intro hz
      unfold dropS
      exact List.mem_filter.2 ⟨(hm z).2 (.inr hz), by simpa using drop_no hz⟩
  rw [hD]
  have hx' := List.mem_of_getElem? hx
  refine rising_ext (putK_rising (drop_rising hr _)) hr fun z => ?_
  rw [putD_mem (y := ⟨x.d, x.n, x.t⟩) hr]
  constructor
  · rintro (rfl | h)
    · exact hx'
    · exact dropS_mem h
  · intro hz
    by_cases hzn : z.n = x.n
    · exact .inl (nos_mem hn hz hx' hzn)
    · exact .inr (List.mem_filter.2 ⟨hz, by simpa using hzn⟩)

/-- How many of the others the law has seen ahead of round i; where it stands among those that were; how often it saw the one. -/
def mM (p i : Nat) : Nat := if i ≤ p then i else i - 1
def kM (o p i : Nat) : Nat := if mM p i ≤ o then mM p i else mM p i + 1
def sM (p i : Nat) : Nat := if i ≤ p then 0 else 1
theorem move_one {D : List It} {y : It} {p : Nat} (hp : p ≤ D.length) : (D.take p ++ y :: D.drop p)[p]? = some y := by
  rw [List.getElem?_append_right (by simp; omega)]
  have : p - (D.take p).length = 0 := by simp; omega
  rw [this]
  rfl
theorem move_len {S : List It} {y x : It} {o p : Nat} (hx : S[o]? = some x) (hp : p ≤ (S.take o ++ S.drop (o + 1)).length) : ((S.take o ++ S.drop (o + 1)).take p ++ y :: (S.take o ++ S.drop (o + 1)).drop p).length = S.length ∧ p < S.length := by
  have h := (List.getElem?_eq_some_iff.1 hx).1
  simp only [List.length_append, List.length_take, List.length_drop, List.length_cons] at hp ⊢
  omega
theorem move_other {S : List It} {y x : It} {o p i : Nat} (hn : Nos S) (hx : S[o]? = some x) (hp : p ≤ (S.take o ++ S.drop (o + 1)).length) (hi : i < S.length) (hip : i ≠ p) :
    ∃ z k', ((S.take o ++ S.drop (o + 1)).take p ++ y :: (S.take o ++ S.drop (o + 1)).drop p)[i]? = some z ∧ z.n ≠ x.n ∧ k' < S.length ∧ S[k']? = some z ∧ ((kM o p i ≠ o ∧ k' = kM o p i) ∨ (kM o p i = o ∧ k' = o + 1)) ∧ kM o p (i + 1) = k' + 1 ∧ sM p (i + 1) = sM p i := by
  have ho := (List.getElem?_eq_some_iff.1 hx).1
  obtain ⟨D, hD⟩ : ∃ D, S.take o ++ S.drop (o + 1) = D := ⟨_, rfl⟩
  have hDl : D.length = S.length - 1 := by rw [← hD]; simp; omega
  rw [hD] at hp ⊢
  have e1 : (D.take p ++ y :: D.drop p)[i]? = D[mM p i]? := by
    unfold mM
    by_cases h : i ≤ p
    · rw [if_pos h, List.getElem?_append_left (by simp; omega), List.getElem?_take_of_lt (by omega)]
    · rw [if_neg h, List.getElem?_append_right (by simp; omega)]
      have : i - (D.take p).length = (i - 1 - p) + 1 := by simp; omega
      rw [this, List.getElem?_cons_succ, List.getElem?_drop]
      congr 1
      omega
  have hm : mM p i < D.length := by unfold mM; split <;> omega
  have e2 : D[mM p i]? = S[if mM p i < o then mM p i else mM p i + 1]? := by
    rw [← hD]
    by_cases h : mM p i < o
    · rw [if_pos h, List.getElem?_append_left (by simp; omega), List.getElem?_take_of_lt h]
    · rw [if_neg h, List.getElem?_append_right (by simp; omega), List.getElem?_drop]
      congr 1
      simp
      omega
  have hk' : (if mM p i < o then mM p i else mM p i + 1) < S.length := by split <;> omega
  have hne : (if mM p i < o then mM p i else mM p i + 1) ≠ o := by split <;> omega
  refine ⟨_, _, ?_, ?_, hk', List.getElem?_eq_getElem hk', ?_, ?_, ?_⟩
  · rw [e1, e2, List.getElem?_eq_getElem hk']
  · intro e
    exact hne (hn.one (List.getElem?_eq_getElem hk') hx e)
  · unfold kM
    by_cases h : mM p i < o
    · rw [if_pos h, if_pos (by omega)]
      exact .inl ⟨by omega, rfl⟩
    · rw [if_neg h]
      by_cases h2 : mM p i = o
      · rw [if_pos (by omega)]
        exact .inr ⟨h2, by omega⟩
      · rw [if_neg (by omega)]
        exact .inl ⟨by omega, rfl⟩
  · have : mM p (i + 1) = mM p i + 1 := by unfold mM; split <;> split <;> omega
    unfold kM
    rw [this]
    split <;> split <;> omega
  · unfold sM
    split <;> split <;> omega
theorem kM_one (o p : Nat) : kM o p (p + 1) = kM o p p ∧ sM p (p + 1) = 1 ∧ sM p p = 0 := by
  have h1 : mM p (p + 1) = p := by unfold mM; rw [if_neg (by omega)]; omega
  have h2 : mM p p = p := by unfold mM; rw [if_pos (by omega)]
  refine ⟨by unfold kM; rw [h1, h2], by unfold sM; rw [if_neg (by omega)], by unfold sM; rw [if_pos (by omega)]⟩
theorem sM_end {p n : Nat} (h : p < n) : sM p n = 1 := by unfold sM; rw [if_neg (by omega)]
theorem kM_zero (o p : Nat) : kM o p 0 = 0 ∧ sM p 0 = 0 := by simp [kM, mM, sM]
theorem sM_le (p i : Nat) : sM p i ≤ 1 := by unfold sM; split <;> omega
theorem kM_le (o p i : Nat) : kM o p i ≤ i + 1 := by unfold kM mM; split <;> split <;> omega

end Go.Proofs.Ytgcncnmkfpfccaa
