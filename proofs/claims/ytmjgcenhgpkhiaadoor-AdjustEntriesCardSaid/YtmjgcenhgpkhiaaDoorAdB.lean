/- Plans, plainly: of two parts of the days; whatever the order; the document's plan; what is booked behind a plan. No program. -/
import Derived.Test.YtmjgcenhgpkhiaaDoorAdA
namespace Go.Proofs.YtmjgcenhgpkhiaaDoor
set_option linter.unusedVariables false
set_option linter.unusedSimpArgs false

theorem rev_ind {α : Type} {motive : List α → Prop} (nil : motive []) (snoc : ∀ (l : List α) (x : α), motive l → motive (l ++ [x])) (l : List α) : motive l := by
  have h : ∀ k : List α, motive k.reverse := fun k => by
    induction k with
    | nil => exact nil
    | cons x k ih => rw [List.reverse_cons]; exact snoc _ x ih
  have := h l.reverse
  rwa [List.reverse_reverse] at this
theorem AllC.perm {l l' : List Lv} {w : List Fl} {c : Cg} (p : l.Perm l') : AllC l w c ↔ AllC l' w c := by
  unfold AllC
  constructor
  · rintro (⟨x, hx, e⟩ | ⟨y, hy, h, e⟩)
    · exact .inl ⟨x, p.mem_iff.1 hx, e⟩
    · exact .inr ⟨y, hy, fun x hx => h x (p.mem_iff.2 hx), e⟩
  · rintro (⟨x, hx, e⟩ | ⟨y, hy, h, e⟩)
    · exact .inl ⟨x, p.mem_iff.2 hx, e⟩
    · exact .inr ⟨y, hy, fun x hx => h x (p.mem_iff.1 hx), e⟩
theorem IsPlan.perm {l l' : List Lv} {w : List Fl} {q : List Cg} (h : IsPlan l w q) (p : l.Perm l') : IsPlan l' w q := ⟨h.ra, fun c => (h.mem c).trans (by unfold InPlan; rw [AllC.perm p])⟩

/-- Flows up to a day come first. -/
theorem take_days {w : List Fl} (hw : Rising Fl.ky w) (day : Int) (n : Nat) (hn : n ≤ w.length) (h1 : ∀ i, i < n → ∀ x, w[i]? = some x → x.d ≤ day) (h2 : ∀ x, w[n]? = some x → day < x.d) : (∀ x ∈ w.take n, x.d ≤ day) ∧ (∀ x ∈ w.drop n, day < x.d) := by
  refine ⟨fun x hx => ?_, fun x hx => ?_⟩
  · obtain ⟨i, hi, e⟩ := List.getElem_of_mem hx
    rw [List.length_take] at hi
    refine h1 i (by omega) x ?_
    rw [List.getElem_take] at e
    rw [List.getElem?_eq_getElem (by omega), e]
  · obtain ⟨i, hi, e⟩ := List.getElem_of_mem hx
    rw [List.length_drop] at hi
    rw [List.getElem_drop] at e
    have h0 := h2 w[n] (List.getElem?_eq_getElem (by omega))
    rcases Nat.eq_zero_or_pos i with rfl | hp
    · subst e; simpa using h0
    · have := List.pairwise_iff_getElem.1 hw n (n + i) (by omega) (by omega) (by omega)
      rw [e] at this
      unfold ltK Fl.ky at this
      simp only at this
      omega
theorem plan_parts {l : List Lv} {w : List Fl} {day : Int} {n : Nat} (hw : Rising Fl.ky w) (h1 : ∀ x ∈ w.take n, x.d ≤ day) (h2 : ∀ x ∈ w.drop n, day < x.d) {p q : List Cg}
    (hp : IsPlan (l.filter fun x => decide (x.d ≤ day)) (w.take n) p) (hq : IsPlan (l.filter fun x => !decide (x.d ≤ day)) (w.drop n) q) : IsPlan l w (p ++ q) := by
  have hwn : w = w.take n ++ w.drop n := (List.take_append_drop n w).symm
  have hr : Rising Fl.ky (w.take n ++ w.drop n) := by rw [← hwn]; exact hw
  have hr1 := (List.pairwise_append.1 hr).1
  have hr2 := (List.pairwise_append.1 hr).2.1
  have at1 : ∀ k : KD, k.1 ≤ day → wantAt w k = wantAt (w.take n) k := fun k hk => by
    have hno : (w.drop n).find? (fun x => decide (x.ky = k)) = none := List.find?_eq_none.2 fun y hy => by
      have hy2 := h2 y hy
      rw [decide_eq_true_eq]
      rintro rfl
      have hk' : y.d ≤ day := hk
      omega
    conv => lhs; rw [hwn]
    unfold wantAt
    rw [List.find?_append, hno, Option.or_none]
  have at2 : ∀ k : KD, day < k.1 → wantAt w k = wantAt (w.drop n) k := fun k hk => by
    have hno : (w.take n).find? (fun x => decide (x.ky = k)) = none := List.find?_eq_none.2 fun y hy => by
      have hy2 := h1 y hy
      rw [decide_eq_true_eq]
      rintro rfl
      have hk' : day < y.d := hk
      omega
    conv => lhs; rw [hwn]
    unfold wantAt
    rw [List.find?_append, hno, Option.none_or]
  have hd1 : ∀ c, c ∈ p → c.d ≤ day := fun c hc => by
    rcases ((hp.mem c).1 hc).1 with ⟨x, hx, rfl⟩ | ⟨y, hy, _, rfl⟩
    · have := (List.mem_filter.1 hx).2
      simpa using this
    · exact h1 y hy
  have hd2 : ∀ c, c ∈ q → day < c.d := fun c hc => by
    rcases ((hq.mem c).1 hc).1 with ⟨x, hx, rfl⟩ | ⟨y, hy, _, rfl⟩
    · have := (List.mem_filter.1 hx).2
      simpa using this
    · exact h2 y hy
  refine ⟨List.pairwise_append.2 ⟨hp.ra, hq.ra, fun a ha b hb => ?_⟩, fun c => ?_⟩
  · have := hd1 a ha
    have := hd2 b hb
    exact .inl (by simp only [Cg.ky]; omega)
  · rw [List.mem_append, hp.mem, hq.mem]
    unfold InPlan
    rw [← or_and_right]
    refine and_congr_left fun _ => ?_
    unfold AllC
    constructor
    · rintro ((⟨x, hx, rfl⟩ | ⟨y, hy, h, rfl⟩) | (⟨x, hx, rfl⟩ | ⟨y, hy, h, rfl⟩))
      · obtain ⟨hm, hd⟩ := List.mem_filter.1 hx
        exact .inl ⟨x, hm, by rw [at1 x.ky (show x.d ≤ day by simpa using hd)]⟩
      · refine .inr ⟨y, List.mem_of_mem_take hy, fun x hx e => ?_, rfl⟩
        refine h x (List.mem_filter.2 ⟨hx, ?_⟩) e
        have := h1 y hy
        simp only [Lv.ky, Fl.ky, Prod.mk.injEq] at e
        simp only [decide_eq_true_eq]
        omega
      · obtain ⟨hm, hd⟩ := List.mem_filter.1 hx
        exact .inl ⟨x, hm, by rw [at2 x.ky (show day < x.d by simpa using hd)]⟩
      · refine .inr ⟨y, List.mem_of_mem_drop hy, fun x hx e => ?_, rfl⟩
        refine h x (List.mem_filter.2 ⟨hx, ?_⟩) e
        have := h2 y hy
        simp only [Lv.ky, Fl.ky, Prod.mk.injEq] at e
        simp only [Bool.not_eq_true', decide_eq_false_iff_not]
        omega
    · rintro (⟨x, hx, rfl⟩ | ⟨y, hy, h, rfl⟩)
      · by_cases hd : x.d ≤ day
        · exact .inl (.inl ⟨x, List.mem_filter.2 ⟨hx, by simpa using hd⟩, by rw [at1 x.ky hd]⟩)
        · exact .inr (.inl ⟨x, List.mem_filter.2 ⟨hx, by simpa using hd⟩, by rw [at2 x.ky (show day < x.d by omega)]⟩)
      · rw [hwn] at hy
        rcases List.mem_append.1 hy with hy | hy
        · exact .inl (.inr ⟨y, hy, fun x hx => h x (List.mem_filter.1 hx).1, rfl⟩)
        · exact .inr (.inr ⟨y, hy, fun x hx => h x (List.mem_filter.1 hx).1, rfl⟩)
theorem ckE_part {l : List Lv} (h : ckE l = 0) (p : Lv → Bool) : ckE (l.filter p) = 0 := by
  obtain ⟨h1, h2, h3, h4⟩ := ckE_ok h
  exact ckE_of (fun x hx => h1 x (List.mem_filter.1 hx).1) (fun x hx => h2 x (List.mem_filter.1 hx).1) (h3.sublist (List.filter_sublist.map _)) (h4.sublist (List.filter_sublist.map _))
theorem ordB_take {w : List Fl} (h : ordB w = true) (n : Nat) : ordB (w.take n) = true := by
  obtain ⟨h1, h2⟩ := ordB_ok h
  exact ordB_of (fun x hx => h1 x (List.mem_of_mem_take hx)) (List.Pairwise.sublist (List.take_sublist _ _) h2)
theorem ordB_drop {w : List Fl} (h : ordB w = true) (n : Nat) : ordB (w.drop n) = true := by
  obtain ⟨h1, h2⟩ := ordB_ok h
  exact ordB_of (fun x hx => h1 x (List.mem_of_mem_drop hx)) (List.Pairwise.sublist (List.drop_sublist _ _) h2)

/-- Putting in at the first place that is not ahead: what 'putK' does, where there is none of the key. -/
theorem putK_first {α : Type} {ky : α → KD} : ∀ {S : List α} {x : α} (j : Nat), j ≤ S.length → (∀ i, i < j → ∀ z, S[i]? = some z → ltK (ky z) (ky x)) → (∀ z, S[j]? = some z → ¬ ltK (ky z) (ky x)) → (∀ z ∈ S, ky z ≠ ky x) → putK ky S x = S.take j ++ x :: S.drop j
  | [], x, j, hj, _, _, _ => by
    obtain rfl : j = 0 := by simpa using hj
    rfl
  | y :: S, x, 0, _, _, h0, hne => by
    have hlt := ltK_total (h0 y rfl) (hne y (by simp))
    show putK ky (y :: S) x = x :: y :: S
    unfold putK
    rw [if_pos hlt]
  | y :: S, x, j + 1, hj, hlo, h0, hne => by
    have hy := hlo 0 (by omega) y rfl
    have h1 : ¬ ltK (ky x) (ky y) := fun h => ltK_irrefl _ (ltK_trans hy h)
    have ih := putK_first (S := S) (x := x) j (by simpa using hj) (fun i hi z hz => hlo (i + 1) (by omega) z (by simpa using hz)) (fun z hz => h0 z (by simpa using hz)) (fun z hz => hne z (by simp [hz]))
    show putK ky (y :: S) x = y :: (S.take j ++ x :: S.drop j)
    unfold putK
    rw [if_neg h1, if_neg (hne y (by simp)), ih]

/-- The document's plan: of the first j live amounts. -/
def rpA (w : List Fl) (l : List Lv) : List Cg := l.foldl (fun acc x => if wantAt w x.ky ≠ x.a then putK Cg.ky acc ⟨x.no, x.d, x.c, x.a, wantAt w x.ky⟩ else acc) []
def rpB (l : List Lv) (A : List Cg) (w : List Fl) : List Cg := w.foldl (fun acc y => if ∃ x ∈ l, y.ky = x.ky then acc else putK Cg.ky acc ⟨-1, y.d, y.c, 0, y.a⟩) A
theorem rpA_snoc (w : List Fl) (l : List Lv) (x : Lv) : rpA w (l ++ [x]) = if wantAt w x.ky ≠ x.a then putK Cg.ky (rpA w l) ⟨x.no, x.d, x.c, x.a, wantAt w x.ky⟩ else rpA w l := by simp [rpA]
theorem rpB_snoc (l : List Lv) (A : List Cg) (w : List Fl) (y : Fl) : rpB l A (w ++ [y]) = if ∃ x ∈ l, y.ky = x.ky then rpB l A w else putK Cg.ky (rpB l A w) ⟨-1, y.d, y.c, 0, y.a⟩ := by simp [rpB]
theorem rpA_ok (w : List Fl) (l : List Lv) (hl : (l.map Lv.ky).Nodup) : Rising Cg.ky (rpA w l) ∧ ∀ c, c ∈ rpA w l ↔ ∃ x ∈ l, c = ⟨x.no, x.d, x.c, x.a, wantAt w x.ky⟩ ∧ c.o ≠ c.n := by
  induction l using rev_ind with
  | nil => exact ⟨List.Pairwise.nil, fun c => by simp [rpA]⟩
  | snoc l x ih =>
    rw [List.map_append, List.nodup_append] at hl
    obtain ⟨h1, h2⟩ := ih hl.1
    have hx : ∀ z ∈ l, z.ky ≠ x.ky := fun z hz => hl.2.2 z.ky (List.mem_map_of_mem hz) x.ky (by simp)
    rw [rpA_snoc]
    split
    · rename_i hne
      refine ⟨putK_rising h1, fun c => ?_⟩
      rw [putK_mem h1, h2]
      constructor
      · rintro (rfl | ⟨⟨z, hz, e, hn⟩, _⟩)
        · exact ⟨x, by simp, rfl, fun e => hne e.symm⟩
        · exact ⟨z, by simp [hz], e, hn⟩
      · rintro ⟨z, hz, rfl, hn⟩
        rcases List.mem_append.1 hz with hz | hz
        · exact .inr ⟨⟨z, hz, rfl, hn⟩, hx z hz⟩
        · rw [List.mem_singleton.1 hz]; exact .inl rfl
    · rename_i heq
      refine ⟨h1, fun c => ?_⟩
      rw [h2]
      constructor
      · rintro ⟨z, hz, e, hn⟩; exact ⟨z, by simp [hz], e, hn⟩
      · rintro ⟨z, hz, rfl, hn⟩
        rcases List.mem_append.1 hz with hz | hz
        · exact ⟨z, hz, rfl, hn⟩
        · rw [List.mem_singleton.1 hz] at hn
          exact absurd (fun e => hn e.symm) heq
theorem rpB_ok {l : List Lv} {w0 : List Fl} (hl : (l.map Lv.ky).Nodup) (w : List Fl) (hw : Rising Fl.ky w) : Rising Cg.ky (rpB l (rpA w0 l) w) ∧ ∀ c, c ∈ rpB l (rpA w0 l) w ↔ c ∈ rpA w0 l ∨ ∃ y ∈ w, (∀ x ∈ l, x.ky ≠ y.ky) ∧ c = ⟨-1, y.d, y.c, 0, y.a⟩ := by
  obtain ⟨hA1, hA2⟩ := rpA_ok w0 l hl
  induction w using rev_ind with
  | nil => exact ⟨hA1, fun c => by simp [rpB]⟩
  | snoc w y ih =>
    have hr := List.pairwise_append.1 hw
    obtain ⟨h1, h2⟩ := ih hr.1
    rw [rpB_snoc]
    split
    · rename_i hex
      refine ⟨h1, fun c => ?_⟩
      rw [h2]
      constructor
      · rintro (h | ⟨z, hz, h3, e⟩)
        · exact .inl h
        · exact .inr ⟨z, by simp [hz], h3, e⟩
      · rintro (h | ⟨z, hz, h3, e⟩)
        · exact .inl h
        · rcases List.mem_append.1 hz with hz | hz
          · exact .inr ⟨z, hz, h3, e⟩
          · rw [List.mem_singleton.1 hz] at h3
            obtain ⟨x, hx, e'⟩ := hex
            exact absurd e'.symm (h3 x hx)
    · rename_i hno
      have hny : ∀ x ∈ l, x.ky ≠ y.ky := fun x hx e => hno ⟨x, hx, e.symm⟩
      refine ⟨putK_rising h1, fun c => ?_⟩
      rw [putK_mem h1, h2]
      constructor
      · rintro (rfl | ⟨h | ⟨z, hz, h3, e⟩, _⟩)
        · exact .inr ⟨y, by simp, hny, rfl⟩
        · exact .inl h
        · exact .inr ⟨z, by simp [hz], h3, e⟩
      · rintro (h | ⟨z, hz, h3, rfl⟩)
        · refine .inr ⟨.inl h, ?_⟩
          obtain ⟨x, hx, rfl, _⟩ := (hA2 c).1 h
          exact hny x hx
        · rcases List.mem_append.1 hz with hz | hz
          · exact .inr ⟨.inr ⟨z, hz, h3, rfl⟩, ltK_ne (hr.2.2 z hz y (by simp))⟩
          · rw [List.mem_singleton.1 hz]; exact .inl rfl
theorem ref_plan {l : List Lv} {w : List Fl} (hl : (l.map Lv.ky).Nodup) (hw : ordB w = true) : IsPlan l w (rpB l (rpA w l) w) := by
  obtain ⟨ha, hr⟩ := ordB_ok hw
  obtain ⟨h1, h2⟩ := rpB_ok (w0 := w) hl w hr
  refine ⟨h1, fun c => ?_⟩
  rw [h2, (rpA_ok w l hl).2]
  unfold InPlan AllC
  constructor
  · rintro (⟨x, hx, e, hn⟩ | ⟨y, hy, h3, rfl⟩)
    · exact ⟨.inl ⟨x, hx, e⟩, hn⟩
    · exact ⟨.inr ⟨y, hy, h3, rfl⟩, fun e => ha y hy e.symm⟩
  · rintro ⟨⟨x, hx, e⟩ | ⟨y, hy, h3, e⟩, hn⟩
    · exact .inl ⟨x, hx, e, hn⟩
    · exact .inr ⟨y, hy, h3, e⟩

end Go.Proofs.YtmjgcenhgpkhiaaDoor
