/- Live amounts, flows and changes, plainly: what may be; the plan as the one rising list of its members. No program. -/
import Derived.Test.YtmjgcenhgpkhiaaDoorFacA
namespace Go.Proofs.YtmjgcenhgpkhiaaDoor
set_option linter.unusedVariables false
set_option linter.unusedSimpArgs false

/-- A live amount; a flow; a change. -/
structure Lv where
  no : Int
  d : Int
  c : Int
  a : Int
deriving DecidableEq, Inhabited
structure Fl where
  d : Int
  c : Int
  a : Int
deriving DecidableEq, Inhabited
structure Cg where
  no : Int
  d : Int
  c : Int
  o : Int
  n : Int
deriving DecidableEq, Inhabited
def Lv.ky (x : Lv) : KD := (x.d, x.c)
def Fl.ky (x : Fl) : KD := (x.d, x.c)
def Cg.ky (x : Cg) : KD := (x.d, x.c)

/-- What is wrong with live amounts. -/
def ckE (l : List Lv) : Int := if (∃ x ∈ l, x.no < 0) then 10 else if (∃ x ∈ l, x.a = 0) then 13 else if (l.map Lv.ky).Nodup ∧ (l.map Lv.no).Nodup then 0 else 17
theorem ckE_ok {l : List Lv} (h : ckE l = 0) : (∀ x ∈ l, 0 ≤ x.no) ∧ (∀ x ∈ l, x.a ≠ 0) ∧ (l.map Lv.ky).Nodup ∧ (l.map Lv.no).Nodup := by
  unfold ckE at h
  split at h
  · cases h
  · rename_i h1
    split at h
    · cases h
    · rename_i h2
      split at h
      · rename_i h3
        exact ⟨fun x hx => Int.not_lt.1 fun hn => h1 ⟨x, hx, hn⟩, fun x hx e => h2 ⟨x, hx, e⟩, h3⟩
      · cases h
theorem ckE_of {l : List Lv} (h1 : ∀ x ∈ l, 0 ≤ x.no) (h2 : ∀ x ∈ l, x.a ≠ 0) (h3 : (l.map Lv.ky).Nodup) (h4 : (l.map Lv.no).Nodup) : ckE l = 0 := by
  unfold ckE
  rw [if_neg (fun ⟨x, hx, hn⟩ => by have := h1 x hx; omega), if_neg (fun ⟨x, hx, e⟩ => h2 x hx e), if_pos ⟨h3, h4⟩]
theorem ckE_perm {l l' : List Lv} (p : l.Perm l') : ckE l = ckE l' := by
  unfold ckE
  have e1 : (∃ x ∈ l, x.no < 0) ↔ ∃ x ∈ l', x.no < 0 := ⟨fun ⟨x, hx, h⟩ => ⟨x, p.mem_iff.1 hx, h⟩, fun ⟨x, hx, h⟩ => ⟨x, p.mem_iff.2 hx, h⟩⟩
  have e2 : (∃ x ∈ l, x.a = 0) ↔ ∃ x ∈ l', x.a = 0 := ⟨fun ⟨x, hx, h⟩ => ⟨x, p.mem_iff.1 hx, h⟩, fun ⟨x, hx, h⟩ => ⟨x, p.mem_iff.2 hx, h⟩⟩
  have e3 : (l.map Lv.ky).Nodup ↔ (l'.map Lv.ky).Nodup := (p.map _).nodup_iff
  have e4 : (l.map Lv.no).Nodup ↔ (l'.map Lv.no).Nodup := (p.map _).nodup_iff
  simp only [e1, e2, e3, e4]
/-- Whether flows are in order. -/
def ordB (w : List Fl) : Bool := decide (∀ x ∈ w, x.a ≠ 0) && decide (w.Pairwise fun x y => ltK x.ky y.ky)
theorem ordB_ok {w : List Fl} (h : ordB w = true) : (∀ x ∈ w, x.a ≠ 0) ∧ Rising Fl.ky w := by
  simpa [ordB, Rising] using h
theorem ordB_of {w : List Fl} (h1 : ∀ x ∈ w, x.a ≠ 0) (h2 : Rising Fl.ky w) : ordB w = true := by
  simp only [ordB, Bool.and_eq_true, decide_eq_true_eq]
  exact ⟨h1, h2⟩
def ordE (w : List Fl) : Int := if ordB w = true then 0 else 13

/-- The amount that is wanted at a place; nought: none is. -/
def wantAt (w : List Fl) (k : KD) : Int := match w.find? (fun x => decide (x.ky = k)) with | none => 0 | some x => x.a
theorem wantAt_in {w : List Fl} (hr : Rising Fl.ky w) {y : Fl} (hy : y ∈ w) : wantAt w y.ky = y.a := by
  unfold wantAt
  cases hf : w.find? (fun x => decide (x.ky = y.ky)) with
  | none => exact absurd (show y.ky = y.ky from rfl) (by have := List.find?_eq_none.1 hf y hy; simp at this)
  | some x =>
    have h1 := List.mem_of_find?_eq_some hf
    have h2 : x.ky = y.ky := by simpa using List.find?_some hf
    rw [hr.one h1 hy h2]
theorem wantAt_out {w : List Fl} {k : KD} (h : ∀ y ∈ w, y.ky ≠ k) : wantAt w k = 0 := by
  unfold wantAt
  rw [List.find?_eq_none.2 (fun y hy => by simpa using h y hy)]
/-- A change that there is, turning something or not. -/
def AllC (l : List Lv) (w : List Fl) (c : Cg) : Prop := (∃ x ∈ l, c = ⟨x.no, x.d, x.c, x.a, wantAt w x.ky⟩) ∨ (∃ y ∈ w, (∀ x ∈ l, x.ky ≠ y.ky) ∧ c = ⟨-1, y.d, y.c, 0, y.a⟩)
/-- The changes of a plan. -/
def InPlan (l : List Lv) (w : List Fl) (c : Cg) : Prop := AllC l w c ∧ c.o ≠ c.n
/-- A list is the plan. -/
structure IsPlan (l : List Lv) (w : List Fl) (p : List Cg) : Prop where
  ra : Rising Cg.ky p
  mem : ∀ c, c ∈ p ↔ InPlan l w c
theorem IsPlan.one {l : List Lv} {w : List Fl} {p q : List Cg} (h : IsPlan l w p) (k : IsPlan l w q) : p = q := rising_ext h.ra k.ra fun c => (h.mem c).trans (k.mem c).symm
/-- One more flow in the map of changes. -/
def updC (C : List Cg) (x : Fl) : List Cg := match C.find? (fun c => decide (c.ky = x.ky)) with
  | none => ⟨-1, x.d, x.c, 0, x.a⟩ :: C.filter (fun c => decide (c.ky ≠ x.ky))
  | some c => ⟨c.no, c.d, c.c, c.o, x.a⟩ :: C.filter (fun c => decide (c.ky ≠ x.ky))
def liveC (x : Lv) : Cg := ⟨x.no, x.d, x.c, x.a, 0⟩
theorem updC_keys {C : List Cg} {x : Fl} (h : (C.map Cg.ky).Nodup) : ((updC C x).map Cg.ky).Nodup := by
  have hf : ((C.filter fun c => decide (c.ky ≠ x.ky)).map Cg.ky).Nodup := h.sublist (List.filter_sublist.map _)
  have hn : x.ky ∉ (C.filter fun c => decide (c.ky ≠ x.ky)).map Cg.ky := fun hm => by
    obtain ⟨c, hc, e⟩ := List.mem_map.1 hm
    have := (List.mem_filter.1 hc).2
    simp [e] at this
  unfold updC
  cases hg : C.find? (fun c => decide (c.ky = x.ky)) with
  | none => exact List.nodup_cons.2 ⟨hn, hf⟩
  | some c =>
    have e : c.ky = x.ky := by simpa using List.find?_some hg
    refine List.nodup_cons.2 ⟨?_, hf⟩
    show c.ky ∉ _
    rw [e]
    exact hn
/-- The map's changes, behind some of the flows. -/
theorem foldC {l : List Lv} (hl : (l.map Lv.ky).Nodup) : ∀ (w : List Fl), Rising Fl.ky w → ∀ C : List Cg, (C.map Cg.ky).Nodup → (∀ c, c ∈ C ↔ AllC l w c) → ∀ x : Fl, (∀ y ∈ w, ltK y.ky x.ky) → ∀ c, c ∈ updC C x ↔ AllC l (w ++ [x]) c := by
  intro w hw C hC hm x hx c
  have hR : Rising Fl.ky (w ++ [x]) := List.pairwise_append.2 ⟨hw, by simp, fun y hy z hz => by rw [List.mem_singleton.1 hz]; exact hx y hy⟩
  have hwn : ∀ y ∈ w, y.ky ≠ x.ky := fun y hy => ltK_ne (hx y hy)
  have hat : ∀ k : KD, k ≠ x.ky → wantAt (w ++ [x]) k = wantAt w k := fun k hk => by
    unfold wantAt
    rw [List.find?_append]
    cases hf : w.find? (fun x => decide (x.ky = k)) with
    | none => simp [Ne.symm hk]
    | some y => rfl
  have hatx : wantAt (w ++ [x]) x.ky = x.a := wantAt_in hR (by simp)
  have hkey : ∀ c, AllC l w c → (∃ z ∈ l, z.ky = c.ky) ∨ (∃ y ∈ w, y.ky = c.ky) := fun c h => by
    rcases h with ⟨z, hz, rfl⟩ | ⟨y, hy, _, rfl⟩
    · exact .inl ⟨z, hz, rfl⟩
    · exact .inr ⟨y, hy, rfl⟩
  have hold : ∀ c : Cg, c.ky ≠ x.ky → (AllC l (w ++ [x]) c ↔ AllC l w c) := fun c hc => by
    constructor
    · rintro (⟨z, hz, rfl⟩ | ⟨y, hy, h2, rfl⟩)
      · exact .inl ⟨z, hz, by rw [hat z.ky hc]⟩
      · rcases List.mem_append.1 hy with hy | hy
        · exact .inr ⟨y, hy, h2, rfl⟩
        · rw [List.mem_singleton.1 hy] at hc
          exact absurd rfl hc
    · rintro (⟨z, hz, rfl⟩ | ⟨y, hy, h2, rfl⟩)
      · exact .inl ⟨z, hz, by rw [hat z.ky hc]⟩
      · exact .inr ⟨y, by simp [hy], h2, rfl⟩
  have hfil : ∀ c : Cg, c ∈ C.filter (fun c => decide (c.ky ≠ x.ky)) ↔ AllC l (w ++ [x]) c ∧ c.ky ≠ x.ky := fun c => by
    rw [List.mem_filter, hm]
    simp only [ne_eq, decide_not, Bool.not_eq_true', decide_eq_false_iff_not]
    constructor
    · rintro ⟨h1, h2⟩; exact ⟨(hold c h2).2 h1, h2⟩
    · rintro ⟨h1, h2⟩; exact ⟨(hold c h2).1 h1, h2⟩
  unfold updC
  cases hg : C.find? (fun c => decide (c.ky = x.ky)) with
  | none =>
    have hno : ∀ c ∈ C, c.ky ≠ x.ky := fun c hc => by simpa using List.find?_eq_none.1 hg c hc
    have hlx : ∀ z ∈ l, z.ky ≠ x.ky := fun z hz e => hno _ ((hm _).2 (.inl ⟨z, hz, rfl⟩)) e
    dsimp only
    rw [List.mem_cons, hfil]
    constructor
    · rintro (rfl | ⟨h1, _⟩)
      · exact .inr ⟨x, by simp, hlx, rfl⟩
      · exact h1
    · intro h
      by_cases e : c.ky = x.ky
      · left
        rcases h with ⟨z, hz, rfl⟩ | ⟨y, hy, h2, rfl⟩
        · exact absurd e (hlx z hz)
        · rcases List.mem_append.1 hy with hy | hy
          · exact absurd e (hwn y hy)
          · rw [List.mem_singleton.1 hy]
      · exact .inr ⟨h, e⟩
  | some c0 =>
    have h0 := List.mem_of_find?_eq_some hg
    have e0 : c0.ky = x.ky := by simpa using List.find?_some hg
    have hA := (hm c0).1 h0
    obtain ⟨z, hz, rfl⟩ : ∃ z ∈ l, c0 = ⟨z.no, z.d, z.c, z.a, wantAt w z.ky⟩ := by
      rcases hA with h | ⟨y, hy, _, rfl⟩
      · exact h
      · exact absurd e0 (hwn y hy)
    have ez : z.ky = x.ky := e0
    dsimp only
    rw [List.mem_cons, hfil]
    constructor
    · rintro (rfl | ⟨h1, _⟩)
      · exact .inl ⟨z, hz, by rw [ez, hatx]⟩
      · exact h1
    · intro h
      by_cases e : c.ky = x.ky
      · left
        rcases h with ⟨z', hz', rfl⟩ | ⟨y, hy, h2, rfl⟩
        · have : z' = z := by
            obtain ⟨i, hi, e1⟩ := List.getElem_of_mem hz
            obtain ⟨k, hk, e2⟩ := List.getElem_of_mem hz'
            have h3 : (l.map Lv.ky)[i]? = (l.map Lv.ky)[k]? := by
              rw [List.getElem?_map, List.getElem?_map, List.getElem?_eq_getElem hi, List.getElem?_eq_getElem hk, e1, e2]
              have e' : z'.ky = x.ky := e
              simp [e', ez]
            have h4 : i = k := (List.getElem?_inj (by simpa using hi) hl).1 h3
            subst h4
            rw [← e2, e1]
          subst this
          rw [ez, hatx]
        · rcases List.mem_append.1 hy with hy | hy
          · exact absurd e (hwn y hy)
          · rw [List.mem_singleton.1 hy] at h2
            exact absurd ez (h2 z hz)
      · exact .inr ⟨h, e⟩
theorem liveC_all {l : List Lv} (hl : (l.map Lv.ky).Nodup) : ((l.map liveC).map Cg.ky).Nodup ∧ ∀ c, c ∈ l.map liveC ↔ AllC l [] c := by
  refine ⟨by rw [List.map_map]; exact hl, fun c => ?_⟩
  rw [List.mem_map]
  constructor
  · rintro ⟨x, hx, rfl⟩; exact .inl ⟨x, hx, rfl⟩
  · rintro (⟨x, hx, rfl⟩ | ⟨y, hy, _⟩)
    · exact ⟨x, hx, rfl⟩
    · cases hy
theorem allC_fold {l : List Lv} (hl : (l.map Lv.ky).Nodup) {w : List Fl} (hw : Rising Fl.ky w) (j : Nat) (hj : j ≤ w.length) : (((w.take j).foldl updC (l.map liveC)).map Cg.ky).Nodup ∧ ∀ c, c ∈ (w.take j).foldl updC (l.map liveC) ↔ AllC l (w.take j) c := by
  induction j with
  | zero => simpa using liveC_all hl
  | succ j ih =>
    obtain ⟨h1, h2⟩ := ih (by omega)
    have e : w.take (j + 1) = w.take j ++ [w[j]] := List.take_succ_eq_append_getElem (by omega)
    have hr : Rising Fl.ky (w.take (j + 1)) := List.Pairwise.sublist (List.take_sublist _ _) hw
    rw [e] at hr ⊢
    rw [List.foldl_append]
    exact ⟨updC_keys h1, foldC hl _ (List.pairwise_append.1 hr).1 _ h1 h2 _ fun y hy => (List.pairwise_append.1 hr).2.2 y hy _ (by simp)⟩
/-- Sorted, and what turns something kept: the plan. -/
theorem plan_of {l : List Lv} {w : List Fl} (hl : (l.map Lv.ky).Nodup) (hw : Rising Fl.ky w) {s : List Cg} (hs : Rising Cg.ky s) (hp : ∀ c, c ∈ s ↔ c ∈ w.foldl updC (l.map liveC)) : IsPlan l w (s.filter fun c => decide (c.o ≠ c.n)) := by
  have h := allC_fold hl hw w.length (Nat.le_refl _)
  rw [List.take_length] at h
  refine ⟨List.Pairwise.sublist List.filter_sublist hs, fun c => ?_⟩
  rw [List.mem_filter, hp, h.2]
  simp [InPlan]

end Go.Proofs.YtmjgcenhgpkhiaaDoor
