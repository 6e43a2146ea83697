/- Versions, plainly: what stands of every store. No program. -/
import Derived.Test.YtkloijkfaooodaaBitA
namespace Go.Proofs.Ytkloijkfaooodaa
set_option linter.unusedVariables false
set_option linter.unusedSimpArgs false

structure GoodV (V : List Vs) : Prop where
  le : V.Pairwise fun a b => a.s ≤ b.s
  lt : ∀ q, (ofP V q).Pairwise fun a b => a.s < b.s
  pos : ∀ v ∈ V, 1 ≤ v.s
theorem GoodV.nil : GoodV [] := ⟨List.Pairwise.nil, fun q => List.Pairwise.nil, fun v h => by cases h⟩
theorem seqV_le {V : List Vs} (h : V.Pairwise fun a b => a.s ≤ b.s) {v : Vs} (hv : v ∈ V) : v.s ≤ seqV V := by
  rcases List.eq_nil_or_concat V with rfl | ⟨U, u, rfl⟩
  · cases hv
  · rw [List.concat_eq_append] at h hv ⊢
    rw [seqV_snoc]
    rcases List.mem_append.1 hv with hv | hv
    · exact (List.pairwise_append.1 h).2.2 v hv u (by simp)
    · rw [List.mem_singleton.1 hv]
      exact Int.le_refl _
theorem seqV_mem {V : List Vs} (h : V ≠ []) : ∃ v ∈ V, seqV V = v.s := by
  rcases List.eq_nil_or_concat V with rfl | ⟨U, u, rfl⟩
  · exact absurd rfl h
  · rw [List.concat_eq_append, seqV_snoc]
    exact ⟨u, by simp, rfl⟩
theorem ofP_mem {V : List Vs} {q : PK} {v : Vs} : v ∈ ofP V q ↔ v ∈ V ∧ v.pl = q := by
  unfold ofP
  rw [List.mem_filter]
  simp
theorem ofP_ofP (V : List Vs) (q : PK) : ofP (ofP V q) q = ofP V q := by
  unfold ofP
  rw [List.filter_filter]
  simp
theorem latP_ofP (V : List Vs) (q : PK) (s : Int) : latP (ofP V q) q s = latP V q s := by
  unfold latP
  rw [ofP_ofP]
/-- Where no version is later, the latest is the last one. -/
theorem latP_last {V : List Vs} {q : PK} {s : Int} (h : ∀ v ∈ ofP V q, v.s ≤ s) : latP V q s = (ofP V q).getLast? := by
  unfold latP
  rcases List.eq_nil_or_concat (ofP V q) with h0 | ⟨U, u, h0⟩
  · rw [h0]
    rfl
  · rw [List.concat_eq_append] at h0
    rw [h0] at h ⊢
    rw [List.reverse_append, List.reverse_singleton, List.singleton_append, List.find?_cons_of_pos (by simpa using h u (by simp))]
    simp
theorem putE_iff {V : List Vs} {v : Vs} : putE V v = 0 ↔ 1 ≤ v.s ∧ seqV V ≤ v.s ∧ ∀ o, latP V v.pl v.s = some o → o.s ≠ v.s := by
  unfold putE
  by_cases h : v.s < 1 ∨ v.s < seqV V
  · rw [if_pos h]
    exact ⟨fun e => by simp at e, fun ⟨h1, h2, _⟩ => by omega⟩
  · rw [if_neg h]
    cases hl : latP V v.pl v.s with
    | none => exact ⟨fun _ => ⟨by omega, by omega, fun o ho => by cases ho⟩, fun _ => rfl⟩
    | some o =>
      dsimp only
      by_cases e : o.s = v.s
      · rw [if_pos e]
        exact ⟨fun e => by simp at e, fun ⟨_, _, h3⟩ => absurd e (h3 o rfl)⟩
      · rw [if_neg e]
        exact ⟨fun _ => ⟨by omega, by omega, fun o' ho => by cases ho; exact e⟩, fun _ => rfl⟩
theorem put_gt {V : List Vs} {v : Vs} (h : GoodV V) (hE : putE V v = 0) : ∀ u ∈ ofP V v.pl, u.s < v.s := by
  obtain ⟨h1, h2, h3⟩ := putE_iff.1 hE
  have hle : ∀ u ∈ ofP V v.pl, u.s ≤ v.s := fun u hu => by have := seqV_le h.le (ofP_mem.1 hu).1; omega
  rw [latP_last hle] at h3
  intro u hu
  have hlt := h.lt v.pl
  rcases List.eq_nil_or_concat (ofP V v.pl) with h0 | ⟨U, x, h0⟩
  · rw [h0] at hu
    cases hu
  · rw [List.concat_eq_append] at h0
    rw [h0] at hu hlt h3 hle
    have hx := h3 x (by simp)
    have hx2 := hle x (by simp)
    rcases List.mem_append.1 hu with hu | hu
    · have := (List.pairwise_append.1 hlt).2.2 u hu x (by simp)
      omega
    · rw [List.mem_singleton.1 hu]
      omega
theorem GoodV.put {V : List Vs} (h : GoodV V) (v : Vs) : GoodV (putV V v) := by
  unfold putV
  by_cases hE : putE V v = 0
  · rw [if_pos hE]
    obtain ⟨h1, h2, h3⟩ := putE_iff.1 hE
    refine ⟨List.pairwise_append.2 ⟨h.le, List.pairwise_singleton _ _, fun a ha b hb => ?_⟩, fun q => ?_, fun u hu => ?_⟩
    · rw [List.mem_singleton.1 hb]
      have := seqV_le h.le ha
      omega
    · rw [ofP_snoc]
      by_cases e : v.pl = q
      · rw [if_pos e]
        refine List.pairwise_append.2 ⟨h.lt q, List.pairwise_singleton _ _, fun a ha b hb => ?_⟩
        rw [List.mem_singleton.1 hb]
        exact put_gt h hE a (by rw [e]; exact ha)
      · rw [if_neg e]
        exact h.lt q
    · rcases List.mem_append.1 hu with hu | hu
      · exact h.pos u hu
      · rw [List.mem_singleton.1 hu]
        exact h1
  · rw [if_neg hE]
    exact h
theorem GoodV.call {V : List Vs} (h : GoodV V) (v : Vs) : GoodV (callV V v) := by
  unfold callV
  split
  · exact h.put _
  · exact h
/-- What is put in a store is put in the store of its place alone. -/
theorem put_apart {V : List Vs} {v : Vs} (h : GoodV V) (hE : putE V v = 0) : putE (ofP V v.pl) v = 0 := by
  obtain ⟨h1, h2, h3⟩ := putE_iff.1 hE
  refine putE_iff.2 ⟨h1, ?_, ?_⟩
  · by_cases h0 : ofP V v.pl = []
    · rw [h0]
      show (0 : Int) ≤ v.s
      omega
    · obtain ⟨u, hu, e⟩ := seqV_mem h0
      rw [e]
      have := put_gt h hE u hu
      omega
  · rw [latP_ofP]
    exact h3
theorem call_apart {V : List Vs} {v : Vs} (h : GoodV V) (hE : callE V v = 0) : callE (ofP V v.pl) v = 0 ∧ callV (ofP V v.pl) v = ofP (callV V v) v.pl := by
  unfold callE at hE ⊢
  unfold callV
  by_cases hf : factE v = 0
  · rw [if_pos hf] at hE ⊢
    rw [if_pos hf, if_pos hf]
    have h1 := put_apart h hE
    rw [norm_pl] at h1
    refine ⟨h1, ?_⟩
    unfold putV
    rw [if_pos hE, if_pos h1, ofP_snoc, if_pos (norm_pl v)]
  · rw [if_neg hf] at hE
    exact absurd hE hf
theorem call_other {V : List Vs} {v : Vs} {q : PK} (h : callE V v ≠ 0 ∨ v.pl ≠ q) : ofP (callV V v) q = ofP V q := by
  unfold callE at h
  unfold callV
  by_cases hf : factE v = 0
  · rw [if_pos hf] at h ⊢
    unfold putV
    by_cases hE : putE V v.norm = 0
    · rw [if_pos hE, ofP_snoc, if_neg (by rw [norm_pl]; rcases h with h | h; exact absurd hE h; exact h)]
    · rw [if_neg hE]
  · rw [if_neg hf]
/-- The store behind calls. -/
def runV (V : List Vs) (l : List Vs) : List Vs := l.foldl callV V
theorem runV_len (V l : List Vs) : (runV V l).length ≤ V.length + l.length := by
  induction l generalizing V with
  | nil => simp [runV]
  | cons v l ih =>
    have h1 : (callV V v).length ≤ V.length + 1 := by
      unfold callV
      split
      · unfold putV
        split <;> simp
      · omega
    have := ih (callV V v)
    simp only [runV, List.foldl_cons, List.length_cons] at this ⊢
    omega
theorem runV_good {V : List Vs} (h : GoodV V) (l : List Vs) : GoodV (runV V l) := by
  induction l generalizing V with
  | nil => exact h
  | cons v l ih => exact ih (h.call v)
theorem runV_snoc (V l : List Vs) (v : Vs) : runV V (l ++ [v]) = callV (runV V l) v := by simp [runV]

end Go.Proofs.Ytkloijkfaooodaa
