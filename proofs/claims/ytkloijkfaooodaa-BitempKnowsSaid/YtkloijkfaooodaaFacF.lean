/- Package facts: a row's facts in order. -/
import Derived.Test.YtkloijkfaooodaaFacE
import Derived.Test.YtkloijkfaooodaaFacS
namespace Go.Proofs.Ytkloijkfaooodaa
open Go.RowKit Go.Sort Go.Shelf
set_option linter.unusedVariables false
set_option linter.unusedSimpArgs false

theorem swoK {α : Type} (ky : α → KD) : SWO (ltOf fun x y => cmpKD (ky x) (ky y)) where
  irrefl x := by unfold ltOf; rw [cmpKD_lt]; exact decide_eq_false (ltK_irrefl _)
  trans x y z h1 h2 := by
    unfold ltOf at *
    rw [cmpKD_lt] at *
    exact decide_eq_true (ltK_trans (of_decide_eq_true h1) (of_decide_eq_true h2))
  ntrans x y z h1 h2 := by
    unfold ltOf at *
    rw [cmpKD_lt] at *
    refine decide_eq_false fun h => ?_
    have h1' := of_decide_eq_false h1
    have h2' := of_decide_eq_false h2
    unfold ltK at *
    omega

theorem encEX_one : ∀ x : Fx, ∀ v ∈ encEX x, v.oneCell' = true := fun x v hv => by simp [encEX] at hv; rcases hv with rfl | rfl | rfl | rfl | rfl | rfl <;> rfl
theorem encEH_one : ∀ x : Ch, ∀ v ∈ encEH x, v.oneCell' = true := fun x v hv => by simp [encEH] at hv; rcases hv with rfl | rfl | rfl | rfl | rfl <;> rfl

theorem sortX_ok (g cap : Nat) (l : List Fx) (w : World) (hH : HoldsK encEX 6 w g 0 l.toArray) (hg : g < w.heap.size) (hl : l.length ≤ 1000) :
    Calls Try.prog 85 #[.slice (some ⟨g, 0, none⟩) l.length cap, .func (.func 86) #[] #[]] w fun e w' =>
      e = .returned (.tuple #[]) ∧ ∃ l', l'.Perm l ∧ l'.Pairwise (fun a b => ¬ ltK b.ky a.ky) ∧ RecsAt w' (some ⟨g, 0, none⟩) 6 encEX l' ∧ w.grownBy w' (some g) := by
  have eg : ∀ args w, (callFunc 86 args).run Try.prog w = .ok (.enter 86 args) w := enters_of Try.func86 (by kernel_rfl) rfl
  have hc : CmpLays Try.prog 86 #[] encEX 6 (fun x y => cmpKD x.ky y.ky) g 0 l.toArray.size w := fun _ _ _ _ x y => cloX_ok x y _
  have hcon := AnyQ.slices_SortFunc Try.sortX 6 Try.isAgg163 Try.sizeOf163 encEX (fun _ => rfl) encEX_one (fun x y => cmpKD x.ky y.ky) (swoK Fx.ky) 86 #[] g 0 cap l.toArray w eg hc hH hg (by simp; omega)
  have hcon' : Calls Try.prog 85 #[.slice (some ⟨g, 0, none⟩) l.toArray.size cap, .func (.func 86) #[] #[]] w _ := hcon
  rw [List.size_toArray] at hcon'
  refine hcon'.mono ?_
  rintro e w' ⟨rfl, d', n, os, hp, hs, rfl⟩
  rw [← List.size_toArray] at hp hs
  have hsz : d'.size = l.toArray.size := hp.1
  refine ⟨rfl, d'.toList, by simpa using perm_in hp, ?_, recs_holds (fun _ => rfl) (holdsK_sortWorldK_c _ _ _ _ _ _ _ _ _ hH hg hsz), grown_sortedK⟩
  rw [← hsz] at hs
  refine List.Pairwise.imp (fun {a b} h => ?_) (sorted_in hs)
  unfold ltOf at h
  rw [cmpKD_lt] at h
  exact of_decide_eq_false h
theorem sortH_ok (g cap : Nat) (l : List Ch) (w : World) (hH : HoldsK encEH 5 w g 0 l.toArray) (hg : g < w.heap.size) (hl : l.length ≤ 1000) :
    Calls Try.prog 89 #[.slice (some ⟨g, 0, none⟩) l.length cap, .func (.func 90) #[] #[]] w fun e w' =>
      e = .returned (.tuple #[]) ∧ ∃ l', l'.Perm l ∧ l'.Pairwise (fun a b => ¬ ltK b.ky a.ky) ∧ RecsAt w' (some ⟨g, 0, none⟩) 5 encEH l' ∧ w.grownBy w' (some g) := by
  have eg : ∀ args w, (callFunc 90 args).run Try.prog w = .ok (.enter 90 args) w := enters_of Try.func90 (by kernel_rfl) rfl
  have hc : CmpLays Try.prog 90 #[] encEH 5 (fun x y => cmpKD x.ky y.ky) g 0 l.toArray.size w := fun _ _ _ _ x y => cloH_ok x y _
  have hcon := AnyQ.slices_SortFunc Try.sortH 5 Try.isAgg170 Try.sizeOf170 encEH (fun _ => rfl) encEH_one (fun x y => cmpKD x.ky y.ky) (swoK Ch.ky) 90 #[] g 0 cap l.toArray w eg hc hH hg (by simp; omega)
  have hcon' : Calls Try.prog 89 #[.slice (some ⟨g, 0, none⟩) l.toArray.size cap, .func (.func 90) #[] #[]] w _ := hcon
  rw [List.size_toArray] at hcon'
  refine hcon'.mono ?_
  rintro e w' ⟨rfl, d', n, os, hp, hs, rfl⟩
  rw [← List.size_toArray] at hp hs
  have hsz : d'.size = l.toArray.size := hp.1
  refine ⟨rfl, d'.toList, by simpa using perm_in hp, ?_, recs_holds (fun _ => rfl) (holdsK_sortWorldK_c _ _ _ _ _ _ _ _ _ hH hg hsz), grown_sortedK⟩
  rw [← hsz] at hs
  refine List.Pairwise.imp (fun {a b} h => ?_) (sorted_in hs)
  unfold ltOf at h
  rw [cmpKD_lt] at h
  exact of_decide_eq_false h

end Go.Proofs.Ytkloijkfaooodaa
