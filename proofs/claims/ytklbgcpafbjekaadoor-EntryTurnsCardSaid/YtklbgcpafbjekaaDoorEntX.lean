/- The statement EntrySums: its walk. -/
import Derived.Test.YtklbgcpafbjekaaDoorEntW
namespace Go.Proofs.YtklbgcpafbjekaaDoor
open Go.RowKit
set_option linter.unusedVariables false
set_option linter.unusedSimpArgs false

/-! ### Plain laws -/
/-- The entries of a tag. -/
def ownOf (t : Ln) (es : List En) : List En := es.filter fun e => decide (e.s.tag = t)
theorem totK_append (t : Ln) (party : Int) (xs ys : List En) : totK t party (xs ++ ys) (xs ++ ys).length = totK t party xs xs.length ++ totK t party ys ys.length := by
  have h1 : ∀ k, k ≤ ys.length → totK t party (xs ++ ys) (xs.length + k) = totK t party xs xs.length ++ totK t party ys k := fun k => by
    induction k with
    | zero =>
      intro _
      rw [Nat.add_zero, totK, List.append_nil]
      exact totK_congr xs.length fun i hi => by
        have : En.at (xs ++ ys) i = En.at xs i := by
          unfold En.at
          rw [List.getD_eq_getElem?_getD, List.getD_eq_getElem?_getD, List.getElem?_append_left hi]
        rw [this]
        exact ⟨rfl, rfl⟩
    | succ k ih =>
      intro hk
      rw [← Nat.add_assoc, totK, totK, ih (by omega), List.append_assoc]
      have : En.at (xs ++ ys) (xs.length + k) = En.at ys k := by
        unfold En.at
        rw [List.getD_eq_getElem?_getD, List.getD_eq_getElem?_getD, List.getElem?_append_right (by omega), Nat.add_sub_cancel_left]
      rw [this]
  rw [List.length_append]
  exact h1 ys.length (Nat.le_refl _)
theorem totK_cons (t : Ln) (party : Int) (e : En) (es : List En) : totK t party (e :: es) (e :: es).length = totIn t party e e.ls.length ++ totK t party es es.length := by
  have := totK_append t party [e] es
  simpa [totK, En.at] using this
theorem totK_own (t : Ln) (party : Int) : ∀ es : List En, totK t party (ownOf t es) (ownOf t es).length = totK t party es es.length
  | [] => rfl
  | e :: es => by
    rw [totK_cons]
    unfold ownOf
    by_cases h : e.s.tag = t
    · rw [List.filter_cons, if_pos (decide_eq_true h)]
      have := totK_cons t party e (ownOf t es)
      unfold ownOf at this
      rw [this]
      have := totK_own t party es
      unfold ownOf at this
      rw [this]
    · rw [List.filter_cons, if_neg (by simpa using h), totIn_skip h, List.nil_append]
      exact totK_own t party es
theorem ownOf_snoc_yes {t : Ln} {es : List En} {e : En} (h : e.s.tag = t) : ownOf t (es ++ [e]) = ownOf t es ++ [e] := by
  unfold ownOf
  rw [List.filter_append, List.filter_cons, if_pos (decide_eq_true h)]
  rfl
theorem ownOf_snoc_no {t : Ln} {es : List En} {e : En} (h : ¬ e.s.tag = t) : ownOf t (es ++ [e]) = ownOf t es := by
  unfold ownOf
  rw [List.filter_append, List.filter_cons, if_neg (by simpa using h)]
  simp
theorem flat_snoc (es : List En) (e : En) : flatF (En.row (es ++ [e])) (es ++ [e]).length = flatF (En.row es) es.length ++ e.cs := by
  rw [List.length_append, List.length_singleton, flatF, flatF_congr es.length (g := En.row es) fun i hi => by
    unfold En.row En.at
    rw [List.getD_eq_getElem?_getD, List.getD_eq_getElem?_getD, List.getElem?_append_left hi]]
  congr 1
  unfold En.row En.at
  rw [List.getD_eq_getElem?_getD, List.getElem?_append_right (by omega)]
  simp

/-! ### Two rows of one's own, of one type -/
def Apart (v v' : Value) : Prop := ∀ x, v.ownBlock = some x → v'.ownBlock ≠ some x
theorem Apart.symm {v v' : Value} (h : Apart v v') : Apart v' v := fun x h1 h2 => h x h2 h1
theorem Apart.kept {w w1 : World} {b size n : Nat} {e : TypeId} {v v' : Value} {xs : List Value} (hd : Apart v v') (h : w.ownsRow b e size v' n xs) (hg : w.grownBy w1 v.ownBlock) : w1.ownsRow b e size v' n xs := by
  refine h.kept hg ?_
  rcases h.2 with ⟨rfl, _⟩ | ⟨g, cap, cur, rfl, _⟩
  · exact Or.inl rfl
  · exact Or.inr fun eq => hd g (by rw [← eq]; rfl) rfl
theorem Apart.new {w : World} {b size n g c H : Nat} {e : TypeId} {v v' : Value} {xs : List Value} {m : Nat} (hd : Apart v v') (h : w.ownsRow b e size v' n xs) (hat : v.ownBlock = some g ∨ g = H) (hH : w.heap.size ≤ H) : Apart (.slice (some ⟨g, 0, none⟩) m c) v' := fun x hx hy => by
  have hx' : g = x := by simpa [Value.ownBlock] using hx
  subst hx'
  rcases hat with h1 | h1
  · exact hd g h1 hy
  · have := (h.lt g hy).2
    omega

/-- What the loops have collected. -/
def SumRel (t : Ln) (wa : World) (L : List En) (v7 v8 : Value) (wr : World) : Prop :=
  wr.ownsRow wa.heap.size 26 7 v7 L.length (flatF (En.row L) L.length) ∧ wr.ownsRow wa.heap.size 26 7 v8 (ownOf t L).length (flatF (En.row (ownOf t L)) (ownOf t L).length) ∧ Apart v7 v8 ∧ Below wa.heap.size wa wr

theorem own_len (t : Ln) (L : List En) : (ownOf t L).length ≤ L.length := List.length_filter_le _ _


/-- Between the two appends. -/
def SumMid (t : Ln) (wb : World) (L : List En) (E : En) (v7 v8 : Value) (wr : World) : Prop :=
  wr.ownsRow wb.heap.size 26 7 v7 (L ++ [E]).length (flatF (En.row (L ++ [E])) (L ++ [E]).length) ∧ wr.ownsRow wb.heap.size 26 7 v8 (ownOf t L).length (flatF (En.row (ownOf t L)) (ownOf t L).length) ∧ Apart v7 v8 ∧ Below wb.heap.size wb wr

theorem SumRel.mid {t : Ln} {wb : World} {L : List En} {E : En} {v7 v8 : Value} {w wd w4 : World} {g c H : Nat} (h : SumRel t wb L v7 v8 w) (hd : Below w.heap.size w wd)
    (hown : w4.ownsRow wb.heap.size 26 7 (.slice (some ⟨g, 0, none⟩) (L.length + 1) c) (L.length + 1) (flatF (En.row L) L.length ++ E.cs)) (hg : wd.grownBy w4 v7.ownBlock) (hat : v7.ownBlock = some g ∨ g = H) (hH : wd.heap.size ≤ H) :
    SumMid t wb L E (.slice (some ⟨g, 0, none⟩) (L.length + 1) c) v8 w4 := by
  obtain ⟨o7, o8, hap, hb⟩ := h
  refine ⟨?_, hap.kept (own_after o8 hd) hg, hap.new (m := L.length + 1) (own_after o8 hd) hat hH, (hb.trans (hd.mono hb.size)).grown hg (Nat.le_trans hb.size hd.size) (fun q e => by have := (o7.lt q e).1; omega)⟩
  rw [flat_snoc, List.length_append, List.length_singleton]
  exact hown
theorem SumMid.no {t : Ln} {wb : World} {L : List En} {E : En} {v7 v8 : Value} {w w' : World} (h : SumMid t wb L E v7 v8 w) (hd : Below w.heap.size w w') (ht : ¬ E.s.tag = t) : SumRel t wb (L ++ [E]) v7 v8 w' := by
  obtain ⟨o7, o8, hap, hb⟩ := h
  exact ⟨own_after o7 hd, by rw [ownOf_snoc_no ht]; exact own_after o8 hd, hap, hb.trans (hd.mono hb.size)⟩
theorem SumMid.yes {t : Ln} {wb : World} {L : List En} {E : En} {v7 v8 : Value} {w wd w4 : World} {g c H : Nat} (h : SumMid t wb L E v7 v8 w) (hd : Below w.heap.size w wd)
    (hown : w4.ownsRow wb.heap.size 26 7 (.slice (some ⟨g, 0, none⟩) ((ownOf t L).length + 1) c) ((ownOf t L).length + 1) (flatF (En.row (ownOf t L)) (ownOf t L).length ++ E.cs)) (hg : wd.grownBy w4 v8.ownBlock) (hat : v8.ownBlock = some g ∨ g = H) (hH : wd.heap.size ≤ H) (ht : E.s.tag = t) :
    SumRel t wb (L ++ [E]) v7 (.slice (some ⟨g, 0, none⟩) ((ownOf t L).length + 1) c) w4 := by
  obtain ⟨o7, o8, hap, hb⟩ := h
  refine ⟨hap.symm.kept (own_after o7 hd) hg, ?_, (hap.symm.new (m := (ownOf t L).length + 1) (own_after o7 hd) hat hH).symm, (hb.trans (hd.mono hb.size)).grown hg (Nat.le_trans hb.size hd.size) (fun q e => by have := (o8.lt q e).1; omega)⟩
  rw [ownOf_snoc_yes ht, flat_snoc, List.length_append, List.length_singleton]
  exact hown

end Go.Proofs.YtklbgcpafbjekaaDoor
