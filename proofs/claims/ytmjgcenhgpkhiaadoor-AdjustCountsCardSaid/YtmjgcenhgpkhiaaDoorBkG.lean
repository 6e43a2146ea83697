/- Books that are turned: how many entries there are; the statement AdjustBooks' walk. -/
import Derived.Test.YtmjgcenhgpkhiaaDoorBkF
namespace Go.Proofs.YtmjgcenhgpkhiaaDoor
open Go.RowKit Go.Sort Go.Shelf
set_option linter.unusedVariables false
set_option linter.unusedSimpArgs false
set_option maxRecDepth 100000

/-- How many flows are in both lists. -/
def both (f g : List Fl) : Nat := (f.filter fun y => decide (y ∈ g)).length
theorem filter_not {α : Type} (p : α → Bool) : ∀ l : List α, (l.filter p).length + (l.filter fun x => !p x).length = l.length
  | [] => rfl
  | x :: l => by
    have ih := filter_not p l
    cases h : p x <;> simp [h] <;> omega
theorem both_comm {f g : List Fl} (hf : f.Nodup) (hg : g.Nodup) : both f g = both g f := by
  have h1 := nodup_len (f.filter fun y => decide (y ∈ g)) (g.filter fun y => decide (y ∈ f)) (hf.sublist List.filter_sublist) (fun y hy => by
    obtain ⟨h1, h2⟩ := List.mem_filter.1 hy
    exact List.mem_filter.2 ⟨by simpa using h2, by simpa using h1⟩)
  have h2 := nodup_len (g.filter fun y => decide (y ∈ f)) (f.filter fun y => decide (y ∈ g)) (hg.sublist List.filter_sublist) (fun y hy => by
    obtain ⟨h1, h2⟩ := List.mem_filter.1 hy
    exact List.mem_filter.2 ⟨by simpa using h2, by simpa using h1⟩)
  unfold both
  omega
theorem len_same {α β : Type} [DecidableEq β] {l : List α} {m : List β} (F : α → β) (hl : (l.map F).Nodup) (hm : m.Nodup) (h1 : ∀ x ∈ l, F x ∈ m) (h2 : ∀ y ∈ m, ∃ x ∈ l, F x = y) : l.length = m.length := by
  have g1 := nodup_len _ m hl (fun y hy => by
    obtain ⟨x, hx, rfl⟩ := List.mem_map.1 hy
    exact h1 x hx)
  have g2 := nodup_len _ (l.map F) hm (fun y hy => by
    obtain ⟨x, hx, e⟩ := h2 y hy
    exact List.mem_map.2 ⟨x, hx, e⟩)
  rw [List.length_map] at g1 g2
  omega
theorem turn_len {L : List EnP} {f g : List Fl} {pl : List Cg} {seq : Int} (h : Bks L f) (hg : ∀ y ∈ g, MayF y) (ho : ordB g = true) (hp : IsPlan (lvs L) g pl) (hQ : StQ L seq pl) :
    ∃ r v, (L ++ stM seq (entsL 1 2 3 (ansL L) pl)).length = L.length + r + v ∧ r + both f g = f.length ∧ v + both f g = g.length := by
  have hR := (ordB_ok ho).2
  have hRf := (ordB_ok h.od).2
  have hkey : ∀ {c c' : Cg}, c ∈ pl → c' ∈ pl → (c.d, c.c) = (c'.d, c'.c) → c = c' := fun hc hc' e => hp.ra.one hc hc' e
  refine ⟨(pl.filter fun c => decide (c.no ≠ -1)).length, (pl.filter fun c => decide (c.n ≠ 0)).length, ?_, ?_, ?_⟩
  · rw [List.length_append]
    unfold stM
    rw [List.length_map, hQ.ln]
    omega
  · have e1 : (pl.filter fun c => decide (c.no ≠ -1)).length = (f.filter fun y => !decide (y ∈ g)).length := by
      refine len_same (fun c : Cg => (⟨c.d, c.c, c.o⟩ : Fl)) (nodup_on (hp.ra.nodup.sublist List.filter_sublist) (fun c hc c' hc' e => ?_)) (hRf.nodup.sublist List.filter_sublist) (fun c hc => ?_) (fun y hy => ?_)
      · simp only [Fl.mk.injEq] at e
        exact hkey (List.mem_filter.1 hc).1 (List.mem_filter.1 hc').1 (by rw [e.1, e.2.1])
      · obtain ⟨hc, hno⟩ := List.mem_filter.1 hc
        have hno : c.no ≠ -1 := by simpa using hno
        obtain ⟨hall, hne⟩ := (hp.mem c).1 hc
        rcases hall with ⟨x, hx, rfl⟩ | ⟨y, _, _, rfl⟩
        · refine List.mem_filter.2 ⟨(h.me _).2 ⟨x, hx, rfl⟩, ?_⟩
          have hne' : x.a ≠ wantAt g x.ky := hne
          simp only [Bool.not_eq_true', decide_eq_false_iff_not]
          intro hin
          exact hne' (wantAt_in hR hin).symm
        · exact absurd rfl hno
      · obtain ⟨hy, hno⟩ := List.mem_filter.1 hy
        simp only [Bool.not_eq_true', decide_eq_false_iff_not] at hno
        obtain ⟨x, hx, rfl⟩ := (h.me y).1 hy
        refine ⟨⟨x.no, x.d, x.c, x.a, wantAt g x.ky⟩, List.mem_filter.2 ⟨(hp.mem _).2 ⟨.inl ⟨x, hx, rfl⟩, fun e => ?_⟩, ?_⟩, rfl⟩
        · have e' : x.a = wantAt g x.ky := e
          have h0 := (h.ma _ hy).n0
          dsimp only at h0
          obtain ⟨y', hy', e1, e2⟩ := want_some (g := g) (k := x.ky) (by rw [← e']; exact h0)
          rw [← e'] at e2
          obtain ⟨yd, yc, ya⟩ := y'
          unfold Fl.ky Lv.ky at e1
          simp only [Prod.mk.injEq] at e1
          dsimp only at e2
          rw [e1.1, e1.2, e2] at hy'
          exact hno hy'
        · obtain ⟨i, _, _, _, _, rfl⟩ := (lvs_mem h.sh).1 hx
          simp only [decide_eq_true_eq]
          intro e'
          have e2 : (i : Int) = -1 := e'
          omega
    rw [e1]
    have := filter_not (fun y => decide (y ∈ g)) f
    unfold both
    omega
  · have e1 : (pl.filter fun c => decide (c.n ≠ 0)).length = (g.filter fun y => !decide (y ∈ f)).length := by
      refine len_same (fun c : Cg => (⟨c.d, c.c, c.n⟩ : Fl)) (nodup_on (hp.ra.nodup.sublist List.filter_sublist) (fun c hc c' hc' e => ?_)) (hR.nodup.sublist List.filter_sublist) (fun c hc => ?_) (fun y hy => ?_)
      · simp only [Fl.mk.injEq] at e
        exact hkey (List.mem_filter.1 hc).1 (List.mem_filter.1 hc').1 (by rw [e.1, e.2.1])
      · obtain ⟨hc, hn⟩ := List.mem_filter.1 hc
        have hn : c.n ≠ 0 := by simpa using hn
        obtain ⟨hall, hne⟩ := (hp.mem c).1 hc
        refine List.mem_filter.2 ⟨?_, ?_⟩
        · rcases hall with ⟨x, hx, rfl⟩ | ⟨y, hy, _, rfl⟩
          · obtain ⟨y', hy', e1, e2⟩ := want_some hn
            obtain ⟨yd, yc, ya⟩ := y'
            unfold Fl.ky Lv.ky at e1
            simp only [Prod.mk.injEq] at e1
            dsimp only at e2 ⊢
            rw [e1.1, e1.2, e2] at hy'
            exact hy'
          · exact hy
        · simp only [Bool.not_eq_true', decide_eq_false_iff_not]
          intro hin
          obtain ⟨x, hx, e⟩ := (h.me _).1 hin
          simp only [Fl.mk.injEq] at e
          rcases hall with ⟨x', hx', rfl⟩ | ⟨y, hy, hny, rfl⟩
          · have : x = x' := one_live h.ky hx hx' (by unfold Lv.ky; rw [e.1, e.2.1])
            subst this
            exact hne e.2.2
          · exact hny x hx (by unfold Lv.ky Fl.ky; rw [e.1, e.2.1])
      · obtain ⟨hy, hno⟩ := List.mem_filter.1 hy
        simp only [Bool.not_eq_true', decide_eq_false_iff_not] at hno
        by_cases hx : ∃ x ∈ lvs L, x.ky = y.ky
        · obtain ⟨x, hx, e⟩ := hx
          have hw : wantAt g x.ky = y.a := by rw [e]; exact wantAt_in hR hy
          have hek : x.d = y.d ∧ x.c = y.c := by unfold Lv.ky Fl.ky at e; simpa using e
          refine ⟨⟨x.no, x.d, x.c, x.a, wantAt g x.ky⟩, List.mem_filter.2 ⟨(hp.mem _).2 ⟨.inl ⟨x, hx, rfl⟩, fun e' => ?_⟩, ?_⟩, ?_⟩
          · have e2 : x.a = wantAt g x.ky := e'
            refine hno ((h.me y).2 ⟨x, hx, ?_⟩)
            rw [hek.1, hek.2, e2, hw]
          · simp only [decide_eq_true_eq]
            rw [hw]
            exact (hg y hy).n0
          · dsimp only
            rw [hek.1, hek.2, hw]
        · exact ⟨⟨-1, y.d, y.c, 0, y.a⟩, List.mem_filter.2 ⟨(hp.mem _).2 ⟨.inr ⟨y, hy, fun x hx' e => hx ⟨x, hx', e⟩, rfl⟩, fun e => (hg y hy).n0 e.symm⟩, by simp only [decide_eq_true_eq]; exact (hg y hy).n0⟩, rfl⟩
    rw [e1, both_comm hRf.nodup hR.nodup]
    have := filter_not (fun y => decide (y ∈ f)) g
    unfold both
    omega
theorem both_self (f : List Fl) : both f f = f.length := by
  unfold both
  rw [List.filter_eq_self.2 (fun y hy => by simpa using hy)]
theorem both_nil (g : List Fl) : both [] g = 0 := rfl

end Go.Proofs.YtmjgcenhgpkhiaaDoor
