/- Facts as of a Seq, plainly: what stands of them, and how many versions they are. No program. -/
import Derived.Test.YtkloijkfaooodaaBitM
import Derived.Test.YtkloijkfaooodaaFacC
namespace Go.Proofs.Ytkloijkfaooodaa
set_option linter.unusedVariables false
set_option linter.unusedSimpArgs false

theorem nodup_len' {α : Type} : ∀ (A B : List α), A.Nodup → (∀ x ∈ A, x ∈ B) → A.length ≤ B.length
  | [], B, _, _ => Nat.zero_le _
  | a :: A, B, hn, hs => by
    haveI : DecidableEq α := fun _ _ => Classical.propDecidable _
    have h1 := List.nodup_cons.1 hn
    have ha := hs a (by simp)
    have := nodup_len' A (B.erase a) h1.2 fun x hx => by
      refine (List.mem_erase_of_ne ?_).2 (hs x (by simp [hx]))
      rintro rfl
      exact h1.1 hx
    rw [List.length_erase_of_mem ha] at this
    have := List.length_pos_of_mem ha
    simp only [List.length_cons]
    omega

theorem latP_snoc (V : List Vs) (x : Vs) (q : PK) (s : Int) : latP (V ++ [x]) q s = if x.pl = q ∧ x.s ≤ s then some x else latP V q s := by
  unfold latP
  rw [ofP_snoc]
  by_cases h : x.pl = q
  · rw [if_pos h, List.reverse_append, List.reverse_singleton, List.singleton_append, List.find?_cons]
    by_cases h2 : x.s ≤ s
    · rw [if_pos ⟨h, h2⟩, decide_eq_true h2]
    · rw [if_neg (fun e => h2 e.2), decide_eq_false h2]
  · rw [if_neg h, if_neg (fun e => h e.1)]
theorem latP_gt {V : List Vs} {q : PK} {s : Int} : ∀ {U : List Vs}, (∀ u ∈ U, s < u.s) → latP (V ++ U) q s = latP V q s := by
  intro U
  induction U generalizing V with
  | nil => intro _; rw [List.append_nil]
  | cons u U ih =>
    intro h
    rw [show V ++ u :: U = (V ++ [u]) ++ U by simp, ih (fun v hv => h v (by simp [hv])), latP_snoc, if_neg]
    intro e
    have := h u (by simp)
    omega

/-- Facts are the latest versions up to a Seq. -/
structure KnowsP (V : List Vs) (s : Int) (A : List Fx) (C : List Ch) : Prop where
  ra : Rising Fx.ky A
  rc : Rising Ch.ky C
  a : ∀ x : Fx, x ∈ A ↔ ∃ v, latP V (false, x.k, x.d) s = some v ∧ v.n = x.n ∧ v.m = x.m
  c : ∀ x : Ch, x ∈ C ↔ ∃ v, latP V (true, x.k, x.d) s = some v ∧ v.p = x.p
theorem KnowsP.nil (s : Int) : KnowsP [] s [] [] := ⟨Rising.nil, Rising.nil, fun x => ⟨fun h => (by cases h), fun ⟨v, h, _⟩ => by simp [latP, ofP] at h⟩, fun x => ⟨fun h => (by cases h), fun ⟨v, h, _⟩ => by simp [latP, ofP] at h⟩⟩
theorem KnowsP.later {V U : List Vs} {s : Int} {A : List Fx} {C : List Ch} (h : KnowsP V s A C) (hU : ∀ u ∈ U, s < u.s) : KnowsP (V ++ U) s A C :=
  ⟨h.ra, h.rc, fun x => by rw [latP_gt hU]; exact h.a x, fun x => by rw [latP_gt hU]; exact h.c x⟩
theorem KnowsP.fix {V : List Vs} {s : Int} {A : List Fx} {C : List Ch} (h : KnowsP V s A C) {v : Vs} (hc : v.c = false) (hs : v.s ≤ s) : KnowsP (V ++ [v]) s (putK Fx.ky A ⟨v.k, v.d, v.n, v.m⟩) C := by
  refine ⟨putK_rising h.ra, h.rc, fun x => ?_, fun x => ?_⟩
  · rw [putK_mem h.ra, latP_snoc]
    by_cases hx : v.pl = (false, x.k, x.d)
    · rw [if_pos ⟨hx, hs⟩]
      have hk : v.k = x.k ∧ v.d = x.d := by simp [Vs.pl] at hx; exact hx.2
      constructor
      · rintro (rfl | ⟨_, h2⟩)
        · exact ⟨v, rfl, rfl, rfl⟩
        · exact absurd (by simp [Fx.ky, hk.1, hk.2]) h2
      · rintro ⟨u, hu, h1, h2⟩
        obtain rfl := Option.some.inj hu
        refine Or.inl ?_
        obtain ⟨xk, xd, xn, xm⟩ := x
        simp only at hk h1 h2
        rw [hk.1, hk.2, h1, h2]
    · rw [if_neg (fun e => hx e.1), ← h.a]
      have hk : Fx.ky x ≠ Fx.ky ⟨v.k, v.d, v.n, v.m⟩ := fun e => hx (by simp [Fx.ky] at e; simp [Vs.pl, hc, e.1, e.2])
      exact ⟨fun e => by
        rcases e with rfl | e
        · exact absurd rfl hk
        · exact e.1, fun e => Or.inr ⟨e, hk⟩⟩
  · rw [latP_snoc, if_neg (fun e => by have := e.1; simp [Vs.pl, hc] at this)]
    exact h.c x
theorem KnowsP.choose {V : List Vs} {s : Int} {A : List Fx} {C : List Ch} (h : KnowsP V s A C) {v : Vs} (hc : v.c = true) (hs : v.s ≤ s) : KnowsP (V ++ [v]) s A (putK Ch.ky C ⟨v.k, v.d, v.p⟩) := by
  refine ⟨h.ra, putK_rising h.rc, fun x => ?_, fun x => ?_⟩
  · rw [latP_snoc, if_neg (fun e => by have := e.1; simp [Vs.pl, hc] at this)]
    exact h.a x
  · rw [putK_mem h.rc, latP_snoc]
    by_cases hx : v.pl = (true, x.k, x.d)
    · rw [if_pos ⟨hx, hs⟩]
      have hk : v.k = x.k ∧ v.d = x.d := by simp [Vs.pl] at hx; exact hx.2
      constructor
      · rintro (rfl | ⟨_, h2⟩)
        · exact ⟨v, rfl, rfl⟩
        · exact absurd (by simp [Ch.ky, hk.1, hk.2]) h2
      · rintro ⟨u, hu, h1⟩
        obtain rfl := Option.some.inj hu
        refine Or.inl ?_
        obtain ⟨xk, xd, xp⟩ := x
        simp only at hk h1
        rw [hk.1, hk.2, h1]
    · rw [if_neg (fun e => hx e.1), ← h.c]
      have hk : Ch.ky x ≠ Ch.ky ⟨v.k, v.d, v.p⟩ := fun e => hx (by simp [Ch.ky] at e; simp [Vs.pl, hc, e.1, e.2])
      exact ⟨fun e => by
        rcases e with rfl | e
        · exact absurd rfl hk
        · exact e.1, fun e => Or.inr ⟨e, hk⟩⟩

/-- Is the version at i the latest one of its place, up to a Seq? -/
def lstB (V : List Vs) (s : Int) (i : Nat) : Bool := match V[i]? with
  | none => false
  | some v => decide (v.s ≤ s) && (V.drop (i + 1)).all (fun u => !decide (u.pl = v.pl ∧ u.s ≤ s))
def cntL (V : List Vs) (s : Int) (j : Nat) : Nat := ((List.range j).filter (lstB V s)).length
theorem cntL_succ (V : List Vs) (s : Int) (j : Nat) : cntL V s (j + 1) = cntL V s j + if lstB V s j = true then 1 else 0 := by
  unfold cntL
  rw [List.range_succ, List.filter_append, List.length_append]
  by_cases h : lstB V s j = true
  · rw [if_pos h]; simp [h]
  · rw [if_neg h]; simp [h]
theorem cntL_le (V : List Vs) (s : Int) (j : Nat) : cntL V s j ≤ j := by
  unfold cntL
  have := List.length_filter_le (lstB V s) (List.range j)
  simpa using this
theorem lstB_iff {V : List Vs} {s : Int} {i : Nat} {v : Vs} (hv : V[i]? = some v) : lstB V s i = true ↔ v.s ≤ s ∧ ∀ u ∈ V.drop (i + 1), ¬ (u.pl = v.pl ∧ u.s ≤ s) := by
  unfold lstB
  rw [hv]
  simp only [Bool.and_eq_true, decide_eq_true_eq, List.all_eq_true, Bool.not_eq_true', decide_eq_false_iff_not]
theorem lstB_lat {V : List Vs} {s : Int} {i : Nat} {v : Vs} (hv : V[i]? = some v) (hs : v.s ≤ s) {k : Int} (h : latI V v.pl s k) : (k = i) ↔ lstB V s i = true := by
  rw [lstB_iff hv]
  obtain ⟨hi, he⟩ := List.getElem?_eq_some_iff.1 hv
  rcases h with ⟨rfl, h⟩ | ⟨n, w, rfl, hw, hp, hws, hl⟩
  · exact absurd ⟨rfl, hs⟩ (h v (List.mem_of_getElem? hv))
  · obtain ⟨hn, hne⟩ := List.getElem?_eq_some_iff.1 hw
    constructor
    · intro e
      obtain rfl : n = i := by omega
      rw [hv] at hw
      cases hw
      exact ⟨hs, hl⟩
    · rintro ⟨_, h2⟩
      rcases Nat.lt_trichotomy n i with h3 | h3 | h3
      · exact absurd ⟨rfl, hs⟩ (hl v (by rw [List.mem_drop_iff_getElem]; exact ⟨i - (n + 1), by omega, by rw [← he]; congr 1; omega⟩))
      · omega
      · exact absurd ⟨hp, hws⟩ (h2 w (by rw [List.mem_drop_iff_getElem]; exact ⟨n - (i + 1), by omega, by rw [← hne]; congr 1; omega⟩))
theorem lstB_some {V : List Vs} {s : Int} {i : Nat} {v : Vs} (hv : V[i]? = some v) (h : lstB V s i = true) : latP V v.pl s = some v := by
  obtain ⟨h1, h2⟩ := (lstB_iff hv).1 h
  exact latI_some hv rfl h1 h2
theorem lat_last {V : List Vs} {s : Int} {q : PK} {v : Vs} (h : latP V q s = some v) : ∃ i, i < V.length ∧ V[i]? = some v ∧ lstB V s i = true := by
  have key : ∀ (U : List Vs), (∃ (i : Nat) (w : Vs), U[i]? = some w ∧ w.pl = q ∧ w.s ≤ s) → ∃ (i : Nat) (w : Vs), i < U.length ∧ U[i]? = some w ∧ w.pl = q ∧ w.s ≤ s ∧ ∀ u ∈ U.drop (i + 1), ¬ (u.pl = q ∧ u.s ≤ s) := by
    intro U
    induction U with
    | nil => rintro ⟨i, w, h, _⟩; simp at h
    | cons x U ih =>
      intro hx
      by_cases hU : ∃ (i : Nat) (w : Vs), U[i]? = some w ∧ w.pl = q ∧ w.s ≤ s
      · obtain ⟨i, w, h1, h2, h3, h4, h5⟩ := ih hU
        exact ⟨i + 1, w, by simp; omega, by simpa using h2, h3, h4, by simpa using h5⟩
      · obtain ⟨i, w, h1, h2, h3⟩ := hx
        cases i with
        | zero =>
          simp at h1
          subst h1
          refine ⟨0, x, by simp, rfl, h2, h3, fun u hu hq => hU ?_⟩
          simp at hu
          obtain ⟨j, hj, e⟩ := List.getElem_of_mem hu
          exact ⟨j, u, by rw [List.getElem?_eq_getElem hj, e], hq⟩
        | succ i => exact absurd ⟨i, w, by simpa using h1, h2, h3⟩ hU
  obtain ⟨hm, hp, hs⟩ := latP_some h
  obtain ⟨j, hj, e⟩ := List.getElem_of_mem hm
  obtain ⟨i, w, h1, h2, h3, h4, h5⟩ := key V ⟨j, v, by rw [List.getElem?_eq_getElem hj, e], hp, hs⟩
  have hw := latI_some h2 h3 h4 h5
  rw [h] at hw
  obtain rfl := Option.some.inj hw
  exact ⟨i, h1, h2, (lstB_iff h2).2 ⟨h4, fun u hu hq => h5 u hu ⟨by rw [hq.1]; exact h3, hq.2⟩⟩⟩

/-- As many versions are the latest ones as there are facts. -/
theorem KnowsP.count {V : List Vs} {s : Int} {A : List Fx} {C : List Ch} (h : KnowsP V s A C) : cntL V s V.length = A.length + C.length := by
  let I := (List.range V.length).filter (lstB V s)
  let P := I.map fun i => (V.getD i default).pl
  let K := A.map (fun x => ((false, x.k, x.d) : PK)) ++ C.map (fun x => ((true, x.k, x.d) : PK))
  have hI : ∀ i ∈ I, i < V.length ∧ lstB V s i = true := fun i hi => by
    have := List.mem_filter.1 hi
    exact ⟨List.mem_range.1 this.1, this.2⟩
  have hP : P.Nodup := by
    refine List.pairwise_map.2 ?_
    have h1 : I.Pairwise (· < ·) := List.pairwise_lt_range.sublist List.filter_sublist
    refine List.Pairwise.imp_of_mem (fun {i j} hi hj hij e => ?_) h1
    obtain ⟨hi1, hi2⟩ := hI i hi
    obtain ⟨hj1, hj2⟩ := hI j hj
    have ei := List.getElem?_eq_getElem hi1
    have ej := List.getElem?_eq_getElem hj1
    rw [List.getD_eq_getElem?_getD, ei, List.getD_eq_getElem?_getD, ej] at e
    simp only [Option.getD_some] at e
    obtain ⟨_, hi4⟩ := (lstB_iff ei).1 hi2
    obtain ⟨hj3, _⟩ := (lstB_iff ej).1 hj2
    exact hi4 V[j] (by rw [List.mem_drop_iff_getElem]; exact ⟨j - (i + 1), by omega, by congr 1; omega⟩) ⟨e.symm, hj3⟩
  have hK : K.Nodup := by
    refine List.nodup_append.2 ⟨?_, ?_, ?_⟩
    · refine List.pairwise_map.2 (h.ra.imp fun {a b} hab e => ?_)
      simp only [Prod.mk.injEq, true_and] at e
      exact ltK_ne hab (Prod.ext e.1 e.2)
    · refine List.pairwise_map.2 (h.rc.imp fun {a b} hab e => ?_)
      simp only [Prod.mk.injEq, true_and] at e
      exact ltK_ne hab (Prod.ext e.1 e.2)
    · intro a ha b hb e
      obtain ⟨x, _, rfl⟩ := List.mem_map.1 ha
      obtain ⟨y, _, rfl⟩ := List.mem_map.1 hb
      simp at e
  have hPK : ∀ q, q ∈ P ↔ q ∈ K := by
    intro q
    have e1 : q ∈ P ↔ ∃ v, latP V q s = some v := by
      constructor
      · intro hq
        obtain ⟨i, hi, rfl⟩ := List.mem_map.1 hq
        obtain ⟨hi1, hi2⟩ := hI i hi
        have ei := List.getElem?_eq_getElem hi1
        refine ⟨V[i], ?_⟩
        rw [List.getD_eq_getElem?_getD, ei]
        exact lstB_some ei hi2
      · rintro ⟨v, hv⟩
        obtain ⟨i, hi, h2, h3⟩ := lat_last hv
        refine List.mem_map.2 ⟨i, List.mem_filter.2 ⟨List.mem_range.2 hi, h3⟩, ?_⟩
        rw [List.getD_eq_getElem?_getD, h2]
        exact (latP_some hv).2.1
    rw [e1, List.mem_append, List.mem_map, List.mem_map]
    constructor
    · rintro ⟨v, hv⟩
      obtain ⟨c, k, d⟩ := q
      cases c with
      | false => exact Or.inl ⟨⟨k, d, v.n, v.m⟩, (h.a _).2 ⟨v, hv, rfl, rfl⟩, rfl⟩
      | true => exact Or.inr ⟨⟨k, d, v.p⟩, (h.c _).2 ⟨v, hv, rfl⟩, rfl⟩
    · rintro (⟨x, hx, rfl⟩ | ⟨x, hx, rfl⟩)
      · obtain ⟨v, hv, _⟩ := (h.a x).1 hx
        exact ⟨v, hv⟩
      · obtain ⟨v, hv, _⟩ := (h.c x).1 hx
        exact ⟨v, hv⟩
  have l1 := nodup_len' P K hP fun q hq => (hPK q).1 hq
  have l2 := nodup_len' K P hK fun q hq => (hPK q).2 hq
  have l3 : P.length = cntL V s V.length := by show (I.map _).length = I.length; rw [List.length_map]
  have l4 : K.length = A.length + C.length := by simp only [K, List.length_append, List.length_map]
  omega

/-- Versions that stand are such that their facts may be. -/
def FactV (V : List Vs) : Prop := ∀ v ∈ V, factE v = 0 ∧ I64 v.n ∧ I64 v.m
theorem norm_factE (v : Vs) : factE v.norm = factE v := by
  unfold Vs.norm factE
  cases h : v.c <;> simp
theorem FactV.nil : FactV [] := fun v h => by cases h
theorem FactV.call {V : List Vs} (h : FactV V) {v : Vs} (hn : I64 v.n) (hm : I64 v.m) : FactV (callV V v) := by
  unfold callV
  by_cases hf : factE v = 0
  · rw [if_pos hf]
    unfold putV
    split
    · intro u hu
      rcases List.mem_append.1 hu with hu | hu
      · exact h u hu
      · rw [List.mem_singleton.1 hu, norm_factE]
        refine ⟨hf, ?_, ?_⟩
        · unfold Vs.norm; split
          · exact ⟨by show (_ : Int) ≤ 0; decide, by show (0 : Int) ≤ _; decide⟩
          · exact hn
        · unfold Vs.norm; split
          · exact ⟨by show (_ : Int) ≤ 0; decide, by show (0 : Int) ≤ _; decide⟩
          · exact hm
    · exact h
  · rw [if_neg hf]
    exact h
theorem FactV.run (l : List Vs) : ∀ {V : List Vs}, FactV V → (∀ v ∈ l, I64 v.n ∧ I64 v.m) → FactV (runV V l) := by
  induction l with
  | nil => exact fun h _ => h
  | cons v l ih => exact fun h hl => ih (h.call (hl v (by simp)).1 (hl v (by simp)).2) fun u hu => hl u (by simp [hu])

/-- What comes behind, of a Seq that is greater, lies behind. -/
theorem call_later {V : List Vs} {v : Vs} {T : Int} (h : T < v.s) : ∃ U, callV V v = V ++ U ∧ ∀ u ∈ U, T < u.s := by
  unfold callV
  split
  · unfold putV
    split
    · exact ⟨[v.norm], rfl, fun u hu => by rw [List.mem_singleton.1 hu, norm_s]; exact h⟩
    · exact ⟨[], by simp, fun u hu => by cases hu⟩
  · exact ⟨[], by simp, fun u hu => by cases hu⟩

end Go.Proofs.Ytkloijkfaooodaa
