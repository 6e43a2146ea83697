/- Counting what is distinct, plainly. No program. -/
import Derived.Test.YtmjgcenhgpkhiaaDoorAdC
namespace Go.Proofs.YtmjgcenhgpkhiaaDoor
set_option linter.unusedVariables false
set_option linter.unusedSimpArgs false

section
variable {α : Type} [DecidableEq α]
/-- The distinct ones. -/
def setK (l : List α) : List α := l.foldl (fun acc k => k :: acc.filter fun y => decide (y ≠ k)) []
theorem setK_snoc (l : List α) (x : α) : setK (l ++ [x]) = x :: (setK l).filter fun y => decide (y ≠ x) := by simp [setK]
theorem setK_ok (l : List α) : (setK l).Nodup ∧ (∀ x, x ∈ setK l ↔ x ∈ l) ∧ (setK l).length ≤ l.length ∧ ((setK l).length = l.length ↔ l.Nodup) := by
  induction l using rev_ind with
  | nil => exact ⟨List.nodup_nil, fun x => by simp [setK], by simp [setK], by simp [setK]⟩
  | snoc l x ih =>
    obtain ⟨h1, h2, h3, h4⟩ := ih
    rw [setK_snoc]
    have hf : ((setK l).filter fun y => decide (y ≠ x)).Nodup := h1.sublist List.filter_sublist
    have hm : ∀ y, y ∈ (setK l).filter (fun y => decide (y ≠ x)) ↔ y ∈ l ∧ y ≠ x := fun y => by rw [List.mem_filter, h2]; simp
    have hx : x ∉ (setK l).filter fun y => decide (y ≠ x) := fun h => ((hm x).1 h).2 rfl
    refine ⟨List.nodup_cons.2 ⟨hx, hf⟩, fun y => ?_, ?_, ?_⟩
    · rw [List.mem_cons, hm, List.mem_append, List.mem_singleton]
      constructor
      · rintro (rfl | ⟨h, _⟩)
        · exact .inr rfl
        · exact .inl h
      · rintro (h | rfl)
        · by_cases e : y = x
          · exact .inl e
          · exact .inr ⟨h, e⟩
        · exact .inl rfl
    · have := List.length_filter_le (fun y => decide (y ≠ x)) (setK l)
      simp only [List.length_cons, List.length_append, List.length_nil]
      omega
    · simp only [List.length_cons, List.length_append, List.length_nil]
      by_cases hxl : x ∈ l
      · have hlt : ((setK l).filter fun y => decide (y ≠ x)).length < (setK l).length := by
          have hn := nodup_len (x :: (setK l).filter fun y => decide (y ≠ x)) (setK l) (List.nodup_cons.2 ⟨hx, hf⟩) fun y hy => by
            rcases List.mem_cons.1 hy with rfl | hy
            · exact (h2 _).2 hxl
            · exact (List.mem_filter.1 hy).1
          simp only [List.length_cons] at hn; omega
        constructor
        · intro e; omega
        · intro hn
          rw [List.nodup_append] at hn
          exact absurd rfl (hn.2.2 x hxl x (by simp))
      · have he : (setK l).filter (fun y => decide (y ≠ x)) = setK l := List.filter_eq_self.2 fun y hy => by
          have := (h2 y).1 hy
          simp only [ne_eq, decide_not, Bool.not_eq_true', decide_eq_false_iff_not]
          rintro rfl
          exact hxl this
        rw [he]
        constructor
        · intro e
          have := h4.1 (by omega)
          exact List.nodup_append.2 ⟨this, by simp, fun a ha b hb e => by rw [List.mem_singleton.1 hb] at e; subst e; exact hxl ha⟩
        · intro hn
          have := h4.2 (List.nodup_append.1 hn).1
          omega
theorem setK_lt (l : List α) : (setK l).length < l.length ↔ ¬ l.Nodup := by
  obtain ⟨_, _, h3, h4⟩ := setK_ok l
  constructor
  · intro h hn
    have := h4.2 hn
    omega
  · intro hn
    have : (setK l).length ≠ l.length := fun e => hn (h4.1 e)
    omega
end

end Go.Proofs.YtmjgcenhgpkhiaaDoor
