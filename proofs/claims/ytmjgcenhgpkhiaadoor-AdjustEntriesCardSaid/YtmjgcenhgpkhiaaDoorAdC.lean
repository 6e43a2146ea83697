/- What is booked behind a plan, plainly. No program. -/
import Derived.Test.YtmjgcenhgpkhiaaDoorAdB
namespace Go.Proofs.YtmjgcenhgpkhiaaDoor
set_option linter.unusedVariables false
set_option linter.unusedSimpArgs false

/-- The amounts by place. -/
def updN (N : List (KD × Int)) (c : Cg) : List (KD × Int) := (c.ky, c.n) :: N.filter fun p => decide (p.1 ≠ c.ky)
def liveN (x : Lv) : KD × Int := (x.ky, x.a)
/-- What is booked at a place behind changes. -/
def NowIs (l : List Lv) (cs : List Cg) (p : KD × Int) : Prop := (∃ c ∈ cs, c.ky = p.1 ∧ c.n = p.2) ∨ ((∀ c ∈ cs, c.ky ≠ p.1) ∧ ∃ x ∈ l, x.ky = p.1 ∧ x.a = p.2)
theorem updN_keys {N : List (KD × Int)} {c : Cg} (h : (N.map (·.1)).Nodup) : ((updN N c).map (·.1)).Nodup := by
  unfold updN
  rw [List.map_cons, List.nodup_cons]
  refine ⟨fun hm => ?_, h.sublist (List.filter_sublist.map _)⟩
  obtain ⟨p, hp, e⟩ := List.mem_map.1 hm
  have := (List.mem_filter.1 hp).2
  simp [e] at this
theorem now_fold {l : List Lv} (hl : (l.map Lv.ky).Nodup) (cs : List Cg) (hc : (cs.map Cg.ky).Nodup) : ((cs.foldl updN (l.map liveN)).map (·.1)).Nodup ∧ ∀ p, p ∈ cs.foldl updN (l.map liveN) ↔ NowIs l cs p := by
  induction cs using rev_ind with
  | nil =>
    refine ⟨by rw [List.foldl_nil, List.map_map]; exact hl, fun p => ?_⟩
    rw [List.foldl_nil, List.mem_map]
    unfold NowIs
    constructor
    · rintro ⟨x, hx, rfl⟩; exact .inr ⟨by simp, x, hx, rfl, rfl⟩
    · rintro (⟨c, hc, _⟩ | ⟨_, x, hx, h1, h2⟩)
      · cases hc
      · exact ⟨x, hx, by obtain ⟨k, n⟩ := p; simp only at h1 h2; rw [← h1, ← h2]; rfl⟩
  | snoc cs c ih =>
    rw [List.map_append, List.nodup_append] at hc
    obtain ⟨h1, h2⟩ := ih hc.1
    have hcn : ∀ b ∈ cs, b.ky ≠ c.ky := fun b hb => hc.2.2 b.ky (List.mem_map_of_mem hb) c.ky (by simp)
    rw [List.foldl_append]
    refine ⟨updN_keys h1, fun p => ?_⟩
    show p ∈ (c.ky, c.n) :: (cs.foldl updN (l.map liveN)).filter (fun p => decide (p.1 ≠ c.ky)) ↔ _
    rw [List.mem_cons, List.mem_filter, h2]
    unfold NowIs
    constructor
    · rintro (rfl | ⟨⟨b, hb, h3, h4⟩ | ⟨h3, x, hx, h4, h5⟩, hne⟩)
      · exact .inl ⟨c, by simp, rfl, rfl⟩
      · exact .inl ⟨b, by simp [hb], h3, h4⟩
      · refine .inr ⟨fun b hb => ?_, x, hx, h4, h5⟩
        rcases List.mem_append.1 hb with hb | hb
        · exact h3 b hb
        · rw [List.mem_singleton.1 hb]
          intro e
          simp [e] at hne
    · rintro (⟨b, hb, h3, h4⟩ | ⟨h3, x, hx, h4, h5⟩)
      · rcases List.mem_append.1 hb with hb | hb
        · refine .inr ⟨.inl ⟨b, hb, h3, h4⟩, ?_⟩
          rw [← h3]
          simpa using hcn b hb
        · rw [List.mem_singleton.1 hb] at h3 h4
          left
          obtain ⟨k, n⟩ := p
          simp only at h3 h4
          rw [← h3, ← h4]
      · refine .inr ⟨.inr ⟨fun b hb => h3 b (by simp [hb]), x, hx, h4, h5⟩, ?_⟩
        have := h3 c (by simp)
        simpa using Ne.symm this
theorem IsPlan.keys {l : List Lv} {w : List Fl} {p : List Cg} (h : IsPlan l w p) : (p.map Cg.ky).Nodup := h.ra.keys
/-- Of a key there is one. -/
theorem one_live {l : List Lv} (hl : (l.map Lv.ky).Nodup) {x z : Lv} (hx : x ∈ l) (hz : z ∈ l) (e : x.ky = z.ky) : x = z := by
  obtain ⟨i, hi, e1⟩ := List.getElem_of_mem hx
  obtain ⟨k, hk, e2⟩ := List.getElem_of_mem hz
  have h3 : (l.map Lv.ky)[i]? = (l.map Lv.ky)[k]? := by
    rw [List.getElem?_map, List.getElem?_map, List.getElem?_eq_getElem hi, List.getElem?_eq_getElem hk, e1, e2]
    simp [e]
  have h4 : i = k := (List.getElem?_inj (by simpa using hi) hl).1 h3
  subst h4
  rw [← e1, e2]
theorem now_want {l : List Lv} {w : List Fl} {cs : List Cg} (hk : ckE l = 0) (hw : ordB w = true) (hp : IsPlan l w cs) (k : KD) (n : Int) (hn : n ≠ 0) : NowIs l cs (k, n) ↔ ∃ y ∈ w, y.ky = k ∧ y.a = n := by
  obtain ⟨_, h2, h3, _⟩ := ckE_ok hk
  obtain ⟨ha, hr⟩ := ordB_ok hw
  unfold NowIs
  dsimp only
  constructor
  · rintro (⟨c, hc, rfl, rfl⟩ | ⟨hno, x, hx, rfl, rfl⟩)
    · obtain ⟨hA, hne⟩ := (hp.mem c).1 hc
      rcases hA with ⟨x, hx, rfl⟩ | ⟨y, hy, _, rfl⟩
      · dsimp only at hn
        by_cases hex : ∃ y ∈ w, y.ky = x.ky
        · obtain ⟨y, hy, e⟩ := hex
          exact ⟨y, hy, e, by dsimp only; rw [← e, wantAt_in hr hy]⟩
        · exact absurd (wantAt_out fun y hy e => hex ⟨y, hy, e⟩) hn
      · exact ⟨y, hy, rfl, rfl⟩
    · by_cases heq : wantAt w x.ky = x.a
      · by_cases hex : ∃ y ∈ w, y.ky = x.ky
        · obtain ⟨y, hy, e⟩ := hex
          exact ⟨y, hy, e, by rw [← heq, ← e, wantAt_in hr hy]⟩
        · exact absurd (heq ▸ wantAt_out fun y hy e => hex ⟨y, hy, e⟩) hn
      · exact absurd rfl (hno ⟨x.no, x.d, x.c, x.a, wantAt w x.ky⟩ ((hp.mem _).2 ⟨.inl ⟨x, hx, rfl⟩, fun e => heq e.symm⟩))
  · rintro ⟨y, hy, rfl, rfl⟩
    by_cases hex : ∃ x ∈ l, x.ky = y.ky
    · obtain ⟨x, hx, e⟩ := hex
      have hat : wantAt w x.ky = y.a := by rw [e, wantAt_in hr hy]
      by_cases heq : x.a = y.a
      · refine .inr ⟨fun c hc e' => ?_, x, hx, e, heq⟩
        obtain ⟨hA, hne⟩ := (hp.mem c).1 hc
        rcases hA with ⟨z, hz, rfl⟩ | ⟨y', hy', hno, rfl⟩
        · have : z = x := one_live h3 hz hx (show z.ky = x.ky from e'.trans e.symm)
          subst this
          exact hne (show z.a = wantAt w z.ky by rw [hat, heq])
        · exact hno x hx (e.trans e'.symm)
      · exact .inl ⟨⟨x.no, x.d, x.c, x.a, wantAt w x.ky⟩, (hp.mem _).2 ⟨.inl ⟨x, hx, rfl⟩, fun e' => heq (show x.a = y.a by rw [← hat]; exact e')⟩, e, hat⟩
    · exact .inl ⟨⟨-1, y.d, y.c, 0, y.a⟩, (hp.mem _).2 ⟨.inr ⟨y, hy, fun x hx e => hex ⟨x, hx, e⟩, rfl⟩, fun e => ha y hy e.symm⟩, rfl, rfl⟩
/-- The amount at a place. -/
def valN (N : List (KD × Int)) (k : KD) : Int := match N.find? (fun p => decide (p.1 = k)) with | none => 0 | some p => p.2
theorem valN_in {N : List (KD × Int)} (h : (N.map (·.1)).Nodup) {k : KD} (hk : k ∈ N.map (·.1)) : (k, valN N k) ∈ N := by
  unfold valN
  cases hf : N.find? (fun p => decide (p.1 = k)) with
  | none =>
    obtain ⟨p, hp, e⟩ := List.mem_map.1 hk
    have := List.find?_eq_none.1 hf p hp
    simp [e] at this
  | some p =>
    have h1 := List.mem_of_find?_eq_some hf
    have h2 : p.1 = k := by simpa using List.find?_some hf
    obtain ⟨a, b⟩ := p
    simp only at h2
    subst h2
    exact h1
theorem valN_one {N : List (KD × Int)} (h : (N.map (·.1)).Nodup) {k : KD} {n : Int} (hk : (k, n) ∈ N) : valN N k = n := by
  have h1 := valN_in h (k := k) (List.mem_map.2 ⟨_, hk, rfl⟩)
  obtain ⟨i, hi, e1⟩ := List.getElem_of_mem h1
  obtain ⟨j, hj, e2⟩ := List.getElem_of_mem hk
  have h3 : (N.map (·.1))[i]? = (N.map (·.1))[j]? := by
    rw [List.getElem?_map, List.getElem?_map, List.getElem?_eq_getElem hi, List.getElem?_eq_getElem hj, e1, e2]; rfl
  have h4 : i = j := (List.getElem?_inj (by simpa using hi) h).1 h3
  subst h4
  rw [e1] at e2
  exact (Prod.mk.inj e2).2
/-- The flows of the places, those of nought left out. -/
def outN (N : List (KD × Int)) (K : List KD) : List Fl := K.filterMap fun k => if valN N k = 0 then none else some ⟨k.1, k.2, valN N k⟩
theorem outN_snoc (N : List (KD × Int)) (K : List KD) (k : KD) : outN N (K ++ [k]) = if valN N k = 0 then outN N K else outN N K ++ [⟨k.1, k.2, valN N k⟩] := by
  unfold outN
  rw [List.filterMap_append]
  split <;> rename_i h <;> simp [h]
theorem outN_mem {N : List (KD × Int)} {K : List KD} {y : Fl} : y ∈ outN N K ↔ y.ky ∈ K ∧ y.a = valN N y.ky ∧ y.a ≠ 0 := by
  unfold outN
  rw [List.mem_filterMap]
  constructor
  · rintro ⟨k, hk, e⟩
    split at e
    · cases e
    · rename_i hn
      cases e
      exact ⟨hk, rfl, hn⟩
  · rintro ⟨h1, h2, h3⟩
    refine ⟨y.ky, h1, ?_⟩
    rw [← h2, if_neg h3]
    rfl
theorem outN_rising {N : List (KD × Int)} {K : List KD} (h : K.Pairwise ltK) : Rising Fl.ky (outN N K) := by
  unfold Rising outN
  refine List.Pairwise.filterMap _ (fun a b hab y hy z hz => ?_) h
  split at hy
  · cases hy
  · split at hz
    · cases hz
    · cases hy; cases hz; exact hab
/-- What is booked behind a plan is what was wanted. -/
theorem out_want {l : List Lv} {w : List Fl} {cs : List Cg} (hk : ckE l = 0) (hw : ordB w = true) (hp : IsPlan l w cs) {K : List KD} (hK : K.Pairwise ltK) (hm : ∀ k, k ∈ K ↔ k ∈ (cs.foldl updN (l.map liveN)).map (·.1)) : outN (cs.foldl updN (l.map liveN)) K = w := by
  obtain ⟨_, _, h3, _⟩ := ckE_ok hk
  obtain ⟨ha, hr⟩ := ordB_ok hw
  obtain ⟨g1, g2⟩ := now_fold h3 cs hp.keys
  refine rising_ext (outN_rising hK) hr fun y => ?_
  rw [outN_mem, hm]
  constructor
  · rintro ⟨h4, h5, h6⟩
    have h7 := valN_in g1 h4
    rw [← h5, g2, now_want hk hw hp _ _ h6] at h7
    obtain ⟨z, hz, e1, e2⟩ := h7
    have : z = y := by
      obtain ⟨zd, zc, za⟩ := z
      obtain ⟨yd, yc, ya⟩ := y
      simp only [Fl.ky, Prod.mk.injEq] at e1 e2
      obtain ⟨rfl, rfl⟩ := e1
      rw [e2]
    rw [← this]
    exact hz
  · intro hy
    have h7 := (g2 (y.ky, y.a)).2 ((now_want hk hw hp _ _ (ha y hy)).2 ⟨y, hy, rfl, rfl⟩)
    exact ⟨List.mem_map.2 ⟨_, h7, rfl⟩, (valN_one g1 h7).symm, ha y hy⟩
/-- What is there, as flows. -/
def flowsOf (l : List Lv) : List Fl := l.foldl (fun acc x => putK Fl.ky acc ⟨x.d, x.c, x.a⟩) []
theorem flowsOf_ok (l : List Lv) (hl : (l.map Lv.ky).Nodup) : Rising Fl.ky (flowsOf l) ∧ ∀ y, y ∈ flowsOf l ↔ ∃ x ∈ l, y = ⟨x.d, x.c, x.a⟩ := by
  induction l using rev_ind with
  | nil => exact ⟨List.Pairwise.nil, fun y => by simp [flowsOf]⟩
  | snoc l x ih =>
    rw [List.map_append, List.nodup_append] at hl
    obtain ⟨h1, h2⟩ := ih hl.1
    have hx : ∀ z ∈ l, z.ky ≠ x.ky := fun z hz => hl.2.2 z.ky (List.mem_map_of_mem hz) x.ky (by simp)
    have e : flowsOf (l ++ [x]) = putK Fl.ky (flowsOf l) ⟨x.d, x.c, x.a⟩ := by simp [flowsOf]
    rw [e]
    refine ⟨putK_rising h1, fun y => ?_⟩
    rw [putK_mem h1, h2]
    constructor
    · rintro (rfl | ⟨⟨z, hz, rfl⟩, _⟩)
      · exact ⟨x, by simp, rfl⟩
      · exact ⟨z, by simp [hz], rfl⟩
    · rintro ⟨z, hz, rfl⟩
      rcases List.mem_append.1 hz with hz | hz
      · exact .inr ⟨⟨z, hz, rfl⟩, hx z hz⟩
      · rw [List.mem_singleton.1 hz]; exact .inl rfl
/-- The plan of what is there is nothing. -/
theorem plan_none {l : List Lv} (hk : ckE l = 0) : ordB (flowsOf l) = true ∧ IsPlan l (flowsOf l) [] := by
  obtain ⟨_, h2, h3, _⟩ := ckE_ok hk
  obtain ⟨hr, hm⟩ := flowsOf_ok l h3
  refine ⟨ordB_of (fun y hy => ?_) hr, List.Pairwise.nil, fun c => ⟨fun h => (by cases h), ?_⟩⟩
  · obtain ⟨x, hx, rfl⟩ := (hm y).1 hy
    exact h2 x hx
  · rintro ⟨⟨x, hx, rfl⟩ | ⟨y, hy, hno, rfl⟩, hne⟩
    · exact absurd (show x.a = wantAt (flowsOf l) x.ky from (wantAt_in hr (y := ⟨x.d, x.c, x.a⟩) ((hm _).2 ⟨x, hx, rfl⟩)).symm) hne
    · obtain ⟨x, hx, rfl⟩ := (hm y).1 hy
      exact absurd rfl (hno x hx)
theorem flowsOf_perm {l l' : List Lv} (hl : (l.map Lv.ky).Nodup) (p : l.Perm l') : flowsOf l = flowsOf l' := by
  obtain ⟨h1, h2⟩ := flowsOf_ok l hl
  obtain ⟨h3, h4⟩ := flowsOf_ok l' ((p.map _).nodup_iff.1 hl)
  exact rising_ext h1 h3 fun y => by rw [h2, h4]; exact ⟨fun ⟨x, hx, e⟩ => ⟨x, p.mem_iff.1 hx, e⟩, fun ⟨x, hx, e⟩ => ⟨x, p.mem_iff.2 hx, e⟩⟩
theorem nodup_len {α : Type} [DecidableEq α] : ∀ (l m : List α), l.Nodup → (∀ x ∈ l, x ∈ m) → l.length ≤ m.length
  | [], m, _, _ => by simp
  | a :: l, m, h, hs => by
    obtain ⟨h1, h2⟩ := List.nodup_cons.1 h
    have ha := hs a (by simp)
    have ih := nodup_len l (m.erase a) h2 fun x hx => (List.mem_erase_of_ne (fun e => h1 (by rw [← e]; exact hx))).2 (hs x (by simp [hx]))
    rw [List.length_erase_of_mem ha] at ih
    have := List.length_pos_of_mem ha
    simp only [List.length_cons]
    omega
/-- A plan is no longer than what is there and what is wanted. -/
theorem plan_len {l : List Lv} {w : List Fl} {p : List Cg} (h : IsPlan l w p) : p.length ≤ l.length + w.length := by
  have hs : ∀ c ∈ p, c ∈ l.map (fun x => (⟨x.no, x.d, x.c, x.a, wantAt w x.ky⟩ : Cg)) ++ w.map (fun y => (⟨-1, y.d, y.c, 0, y.a⟩ : Cg)) := fun c hc => by
    rcases ((h.mem c).1 hc).1 with ⟨x, hx, rfl⟩ | ⟨y, hy, _, rfl⟩
    · exact List.mem_append.2 (.inl (List.mem_map.2 ⟨x, hx, rfl⟩))
    · exact List.mem_append.2 (.inr (List.mem_map.2 ⟨y, hy, rfl⟩))
  have := nodup_len _ _ h.ra.nodup hs
  simpa using this
/-- What a plan's changes are like. -/
theorem plan_like {l : List Lv} {w : List Fl} {p : List Cg} (hk : ckE l = 0) (h : IsPlan l w p) : ∀ c ∈ p, c.o ≠ c.n ∧ (c.no = -1 ↔ c.o = 0) := fun c hc => by
  obtain ⟨h1, h2, _, _⟩ := ckE_ok hk
  obtain ⟨hA, hne⟩ := (h.mem c).1 hc
  refine ⟨hne, ?_⟩
  rcases hA with ⟨x, hx, rfl⟩ | ⟨y, hy, _, rfl⟩
  · have e1 := h1 x hx
    have e2 := h2 x hx
    dsimp only
    constructor
    · intro e; omega
    · intro e; exact absurd e e2
  · simp

end Go.Proofs.YtmjgcenhgpkhiaaDoor
