/- Books that are turned, plainly (1): their entries, what is live, sums. -/
import Derived.Test.YtmjgcenhgpkhiaaDoorMgK
namespace Go.Proofs.YtmjgcenhgpkhiaaDoor
open Go.RowKit Go.Sort Go.Shelf
set_option linter.unusedVariables false
set_option linter.unusedSimpArgs false

def shp (c n : Int) : List Ln := [⟨2, c, n⟩, ⟨3, c, -n⟩]
def amE (e : EnP) : Int := match e.ls with | [] => 0 | l :: _ => l.a
/-- An entry of the books: money of the parties 2 and 3, in the contract 1. -/
structure BkE (e : EnP) : Prop where
  con : e.s.con = 1
  day : 0 ≤ e.s.day ∧ e.s.day ≤ 73048
  cur : 0 ≤ e.s.cur ∧ e.s.cur < 8
  ls : e.ls = shp e.s.cur (amE e)
  n0 : amE e ≠ 0
  bd : -1152921504606846976 ≤ amE e ∧ amE e ≤ 1152921504606846976
/-- A flow that may be booked. -/
structure MayF (y : Fl) : Prop where
  day : 0 ≤ y.d ∧ y.d ≤ 73048
  cur : 0 ≤ y.c ∧ y.c < 8
  n0 : y.a ≠ 0
  bd : -1152921504606846976 ≤ y.a ∧ y.a ≤ 1152921504606846976
theorem belowB_of {n m : Int} (h : 0 ≤ n ∧ n < m) : belowB n m = true := by unfold belowB; exact decide_eq_true h
theorem check_shp {con d c seq per ref n : Int} (h1 : con = 1) (h2 : 0 ≤ d ∧ d ≤ 73048) (h3 : 0 ≤ c ∧ c < 8) (h4 : 0 ≤ seq) (h5 : 0 ≤ per) (h6 : -1 ≤ ref) (h7 : n ≠ 0) (h8 : -1152921504606846976 ≤ n ∧ n ≤ 1152921504606846976) : checkE ⟨con, d, c, seq, per, ref⟩ (shp c n) = 0 := by
  subst h1
  have b1 := belowB_of h3
  have b2 : belowB d 73049 = true := belowB_of (by omega)
  have r1 : rangesB ⟨1, d, c, seq, per, ref⟩ (shp c n) = true := by
    unfold rangesB tagOk shp lineOk
    simp only [List.any_cons, List.any_nil, b1, b2]
    simp [h4, h5, h6, belowB]
  have r2 : linesB ⟨1, d, c, seq, per, ref⟩ (shp c n) = true := by
    unfold linesB shp
    simp
  have r3 : someB (shp c n) = true := by
    unfold someB shp
    simp [h7]
  have r4 : fitsB (shp c n) = true := by
    unfold fitsB shp
    simp
    omega
  have r5 : evenB (shp c n) = true := by
    unfold evenB shp
    simp
    omega
  unfold checkE
  rw [if_pos r1, if_pos r2, if_pos r3, if_pos r4, if_pos r5]
theorem BkE.check {e : EnP} (h : BkE e) (hs : 0 ≤ e.s.seq) (hp : 0 ≤ e.s.per) (hr : -1 ≤ e.s.ref) : checkE e.s e.ls = 0 := by
  have := check_shp h.con h.day h.cur hs hp hr h.n0 h.bd
  rw [h.ls]
  exact this
theorem amtK_shp (c n : Int) (h : -1152921504606846976 ≤ n ∧ n ≤ 1152921504606846976) : amtK (shp c n) 2 (shp c n).length = n := by
  have e1 : amtK (shp c n) 2 (shp c n).length = wrap64 (0 + n) := by
    unfold shp
    simp [amtK, Ln.at]
  rw [e1]
  unfold wrap64
  omega
theorem lvF_bk {i : Int} {e : EnP} (h : BkE e) : lvF 2 (i, e) = some ⟨i, e.s.day, e.s.cur, amE e⟩ := by
  have h1 : amtK e.ls 2 e.ls.length = amE e := by
    have := amtK_shp e.s.cur (amE e) h.bd
    rw [← h.ls] at this
    exact this
  unfold lvF
  dsimp only
  rw [h1, if_neg h.n0]

/-- What is live for the party 2. -/
def lvs (L : List EnP) : List Lv := lvsP 2 (liveP L 1)
theorem idxP_mem {L : List EnP} {z : Int × EnP} : z ∈ idxP L ↔ ∃ i : Nat, z.1 = (i : Int) ∧ L[i]? = some z.2 := by
  unfold idxP
  rw [List.mem_map]
  constructor
  · rintro ⟨⟨e, i⟩, hp, rfl⟩
    exact ⟨i, rfl, by rw [← List.mk_mem_zipIdx_iff_getElem?]; exact hp⟩
  · rintro ⟨i, h1, h2⟩
    exact ⟨(z.2, i), by rw [List.mk_mem_zipIdx_iff_getElem?]; exact h2, by rw [← h1]⟩
theorem lvs_mem {L : List EnP} (hs : ∀ e ∈ L, BkE e) {x : Lv} : x ∈ lvs L ↔ ∃ (i : Nat) (e : EnP), L[i]? = some e ∧ e.s.ref = -1 ∧ revI L (i : Int) = none ∧ x = ⟨i, e.s.day, e.s.cur, amE e⟩ := by
  unfold lvs lvsP
  rw [List.mem_filterMap]
  constructor
  · rintro ⟨z, hz, hx⟩
    unfold liveP at hz
    obtain ⟨h1, h2⟩ := List.mem_filter.1 hz
    obtain ⟨i, h3, h4⟩ := idxP_mem.1 h1
    unfold keepB at h2
    simp only [Bool.and_eq_true, decide_eq_true_eq, Option.isNone_iff_eq_none] at h2
    have hb := hs _ (List.mem_of_getElem? h4)
    rw [show lvF 2 z = lvF 2 (z.1, z.2) from rfl, lvF_bk hb] at hx
    exact ⟨i, z.2, h4, h2.1.2, by rw [← h3]; exact h2.1.1, by rw [← h3]; exact (Option.some.inj hx).symm⟩
  · rintro ⟨i, e, h1, h2, h3, rfl⟩
    have hb := hs e (List.mem_of_getElem? h1)
    refine ⟨((i : Int), e), List.mem_filter.2 ⟨idxP_mem.2 ⟨i, rfl, h1⟩, ?_⟩, lvF_bk hb⟩
    unfold keepB
    simp [h2, h3, hb.con]
theorem lvsP_nos (A : List (Int × EnP)) : ((lvsP 2 A).map Lv.no).Sublist (A.map Prod.fst) := by
  induction A with
  | nil => exact List.Sublist.refl _
  | cons z A ih =>
    unfold lvsP at ih ⊢
    rw [List.filterMap_cons]
    cases h : lvF 2 z with
    | none => exact ih.cons _
    | some x =>
      have : x.no = z.1 := by
        unfold lvF at h
        split at h
        · cases h
        · cases h; rfl
      rw [List.map_cons, List.map_cons, this]
      exact ih.cons_cons _
theorem idxP_fst (L : List EnP) : (idxP L).map Prod.fst = (List.range L.length).map (fun i : Nat => (i : Int)) := by
  refine List.ext_getElem? fun i => ?_
  unfold idxP
  rw [List.getElem?_map, List.getElem?_map, List.getElem?_map]
  by_cases h : i < L.length
  · rw [List.getElem?_eq_getElem (by simpa using h), List.getElem?_range h]
    simp
  · rw [List.getElem?_eq_none (by simpa using h), List.getElem?_eq_none (by simpa using h)]
    rfl
theorem lvs_nos (L : List EnP) : ((lvs L).map Lv.no).Nodup := by
  have h1 : ((List.range L.length).map (fun i : Nat => (i : Int))).Nodup := by
    rw [List.Nodup, List.pairwise_map]
    exact List.nodup_range.imp fun h e => h (by omega)
  rw [← idxP_fst] at h1
  have h2 : ((liveP L 1).map Prod.fst).Sublist ((idxP L).map Prod.fst) := List.filter_sublist.map _
  exact h1.sublist ((lvsP_nos _).trans h2)
theorem nodup_of_map {α β : Type} {f : α → β} {l : List α} (h : (l.map f).Nodup) : l.Nodup := by
  rw [List.Nodup, List.pairwise_map] at h
  exact h.imp fun hne e => hne (by rw [e])
theorem nodup_on {α β : Type} {f : α → β} {l : List α} (h : l.Nodup) (hi : ∀ x ∈ l, ∀ y ∈ l, f x = f y → x = y) : (l.map f).Nodup := by
  rw [List.Nodup, List.pairwise_map]
  exact List.Pairwise.imp_of_mem (fun ha hb hne e => hne (hi _ ha _ hb e)) h

/-- A party's money of a tag. -/
def sumT (L : List EnP) (party d c : Int) : Int := (sumQ (qTag ⟨1, d, c⟩) party L).sum
def atT (e : EnP) (d c : Int) : Int := if e.s.day = d ∧ e.s.cur = c then amE e else 0
theorem sum_snoc2 {L : List EnP} {x : EnP} (h : BkE x) (d c : Int) : sumT (L ++ [x]) 2 d c = sumT L 2 d c + atT x d c := by
  unfold sumT
  rw [sumQ_snoc, List.sum_append]
  congr 1
  rw [h.ls]
  unfold lnsQ shp qTag Six.tag atT
  by_cases hk : x.s.day = d ∧ x.s.cur = c
  · simp [h.con, hk.1, hk.2]
  · have : ¬ ((⟨x.s.con, x.s.day, x.s.cur⟩ : Ln) = ⟨1, d, c⟩) := fun e => hk (by simp only [Ln.mk.injEq] at e; exact e.2)
    simp [this, hk]
theorem sum_snoc3 {L : List EnP} {x : EnP} (h : BkE x) (d c : Int) : sumT (L ++ [x]) 3 d c = sumT L 3 d c - atT x d c := by
  unfold sumT
  rw [sumQ_snoc, List.sum_append, Int.sub_eq_add_neg]
  congr 1
  rw [h.ls]
  unfold lnsQ shp qTag Six.tag atT
  by_cases hk : x.s.day = d ∧ x.s.cur = c
  · simp [h.con, hk.1, hk.2]
  · have : ¬ ((⟨x.s.con, x.s.day, x.s.cur⟩ : Ln) = ⟨1, d, c⟩) := fun e => hk (by simp only [Ln.mk.injEq] at e; exact e.2)
    simp [this, hk]
theorem BkE.stamp {e : EnP} (h : BkE e) (per seq : Int) : BkE (stamp per seq e) := ⟨h.con, h.day, h.cur, h.ls, h.n0, h.bd⟩
theorem MayF.bk {y : Fl} (h : MayF y) : BkE (flowP 1 y.d y.c y.a 2 3) := ⟨rfl, h.day, h.cur, rfl, h.n0, h.bd⟩
theorem BkE.rev {e : EnP} (h : BkE e) (no : Int) : BkE (revP e no) ∧ amE (revP e no) = -amE e := by
  have h1 : (revP e no).ls = shp e.s.cur (-amE e) := by
    unfold revP
    dsimp only
    rw [h.ls]
    unfold shp Ln.neg
    rfl
  have h2 : amE (revP e no) = -amE e := by unfold amE at h1 ⊢; rw [h1]; rfl
  refine ⟨⟨h.con, h.day, h.cur, by rw [h2]; exact h1, by rw [h2]; have := h.n0; omega, by rw [h2]; have := h.bd; omega⟩, h2⟩

end Go.Proofs.YtmjgcenhgpkhiaaDoor
namespace Go.Proofs.YtmjgcenhgpkhiaaDoor
open Go.RowKit Go.Sort Go.Shelf
set_option linter.unusedVariables false
set_option linter.unusedSimpArgs false

/-- Books that tell just some flows. -/
structure Bks (L : List EnP) (f : List Fl) : Prop where
  wl : WL L
  sh : ∀ e ∈ L, BkE e
  ky : ((lvs L).map Lv.ky).Nodup
  me : ∀ y : Fl, y ∈ f ↔ ∃ x ∈ lvs L, (⟨x.d, x.c, x.a⟩ : Fl) = y
  su : ∀ d c, sumT L 2 d c = wantAt f (d, c) ∧ sumT L 3 d c = -wantAt f (d, c)
  od : ordB f = true
  ma : ∀ y ∈ f, MayF y
def ansL (L : List EnP) (no : Int) : EnP := L.getD no.toNat ⟨zero6, []⟩
def errL (L : List EnP) (no : Int) : Int := if 0 ≤ no ∧ no < L.length then 0 else 16
theorem ansL_at {L : List EnP} {i : Nat} {e : EnP} (h : L[i]? = some e) : ansL L (i : Int) = e := by
  unfold ansL
  rw [List.getD_eq_getElem?_getD, Int.toNat_natCast, h]
  rfl
theorem Bks.ck {L : List EnP} {f : List Fl} (h : Bks L f) : ckE (lvs L) = 0 := by
  refine ckE_of (fun x hx => ?_) (fun x hx => ?_) h.ky (lvs_nos L)
  · obtain ⟨i, e, _, _, _, rfl⟩ := (lvs_mem h.sh).1 hx
    exact Int.natCast_nonneg i
  · obtain ⟨i, e, h1, _, _, rfl⟩ := (lvs_mem h.sh).1 hx
    exact (h.sh e (List.mem_of_getElem? h1)).n0
/-- The changes at a place, summed. -/
def dq (q : List Cg) (d c : Int) : Int := ((q.filter fun x => decide (x.d = d ∧ x.c = c)).map fun x => x.n - x.o).sum
theorem dq_snoc (q : List Cg) (x : Cg) (d c : Int) : dq (q ++ [x]) d c = dq q d c + if x.d = d ∧ x.c = c then x.n - x.o else 0 := by
  unfold dq
  rw [List.filter_append, List.map_append, List.sum_append]
  congr 1
  by_cases h : x.d = d ∧ x.c = c
  · simp [h]
  · simp [h]
def stM (seq : Int) (X : List EnP) : List EnP := X.map (stamp 0 seq)
theorem stM_snoc (seq : Int) (X : List EnP) (x : EnP) : stM seq (X ++ [x]) = stM seq X ++ [stamp 0 seq x] := by unfold stM; simp
def OkX (L : List EnP) (seq : Int) (X : List EnP) : Prop := ∀ (i : Nat) (x : EnP), X[i]? = some x → wrongE (L ++ stM seq (X.take i)) x = 0
theorem OkX.snoc {L : List EnP} {seq : Int} {X : List EnP} {x : EnP} (h : OkX L seq X) (hx : wrongE (L ++ stM seq X) x = 0) : OkX L seq (X ++ [x]) := fun i y hy => by
  by_cases hlt : i < X.length
  · rw [List.getElem?_append_left hlt] at hy
    rw [List.take_append_of_le_length (by omega)]
    exact h i y hy
  · rw [List.getElem?_append_right (by omega)] at hy
    have e0 : i = X.length := by
      rcases Nat.lt_or_ge (i - X.length) 1 with h1 | h1
      · omega
      · rw [List.getElem?_eq_none (by simpa using h1)] at hy; cases hy
    subst e0
    simp at hy
    subst hy
    rw [List.take_append_of_le_length (Nat.le_refl _), List.take_length]
    exact hx
theorem seqOf_st {L X : List EnP} {seq : Int} (h : seqOf L ≤ seq) : seqOf (L ++ stM seq X) ≤ seq := seqOf_pre h

/-- The state behind some of a plan's changes. -/
structure StG (L : List EnP) (seq : Int) (X : List EnP) (N : Int → Prop) (δ : Int → Int → Int) (F : Cg → Prop) : Prop where
  wl : WL (L ++ stM seq X)
  sh : ∀ e ∈ X, BkE e
  ok : OkX L seq X
  rv : ∀ no : Int, 0 ≤ no → (revI (L ++ stM seq X) no = none ↔ revI L no = none ∧ ¬ N no)
  s2 : ∀ d c, sumT (L ++ stM seq X) 2 d c = sumT L 2 d c + δ d c
  s3 : ∀ d c, sumT (L ++ stM seq X) 3 d c = sumT L 3 d c - δ d c
  nd : ∀ (i j : Nat) (a b : EnP), X[i]? = some a → X[j]? = some b → a.s.ref = -1 → b.s.ref = -1 → (a.s.day, a.s.cur) = (b.s.day, b.s.cur) → i = j
  fl : ∀ e ∈ X, e.s.ref = -1 → ∃ c, F c ∧ c.n ≠ 0 ∧ e = flowP 1 c.d c.c c.n 2 3
  of : ∀ c, F c → c.n ≠ 0 → flowP 1 c.d c.c c.n 2 3 ∈ X
theorem StG.congr {L : List EnP} {seq : Int} {X : List EnP} {N N' : Int → Prop} {δ δ' : Int → Int → Int} {F F' : Cg → Prop} (h : StG L seq X N δ F) (hN : ∀ no, 0 ≤ no → (N no ↔ N' no)) (hδ : ∀ d c, δ d c = δ' d c) (hF : ∀ c, c.n ≠ 0 → (F c ↔ F' c)) : StG L seq X N' δ' F' :=
  ⟨h.wl, h.sh, h.ok, fun no hn => by rw [h.rv no hn, hN no hn], fun d c => by rw [h.s2, hδ], fun d c => by rw [h.s3, hδ], h.nd, fun e he hr => by
    obtain ⟨c, h1, h2, h3⟩ := h.fl e he hr
    exact ⟨c, (hF c h2).1 h1, h2, h3⟩, fun c hc hn => h.of c ((hF c hn).2 hc) hn⟩

theorem get_snoc {α : Type} {X : List α} {y a : α} {i : Nat} (h : (X ++ [y])[i]? = some a) : X[i]? = some a ∨ (i = X.length ∧ a = y) := by
  by_cases hlt : i < X.length
  · rw [List.getElem?_append_left hlt] at h; exact .inl h
  · rw [List.getElem?_append_right (by omega)] at h
    rcases Nat.lt_or_ge (i - X.length) 1 with h1 | h1
    · have : i = X.length := by omega
      subst this
      simp at h
      exact .inr ⟨rfl, h.symm⟩
    · rw [List.getElem?_eq_none (by simpa using h1)] at h; cases h
theorem revI_st {L : List EnP} {x : EnP} {no : Int} (h : revI L no = none) : revI (L ++ [x]) no = none ↔ ¬ (x.s.ref = no ∧ 0 ≤ no) := by
  rw [revI_snoc, h]
  dsimp only
  by_cases e : x.s.ref = no ∧ 0 ≤ no
  · simp [e]
  · simp [e]
theorem revI_up {L : List EnP} {x : EnP} {no : Int} {k : Nat} (h : revI L no = some k) : revI (L ++ [x]) no = some k := by rw [revI_snoc, h]

/-- One entry more. -/
theorem st_put {L : List EnP} {seq : Int} (hs : 0 ≤ seq) (hq : seqOf L ≤ seq) {X : List EnP} {y : EnP} (hwl : WL (L ++ stM seq X)) (hok : OkX L seq X) (hy : BkE y) (hw : wrongE (L ++ stM seq X) y = 0) :
    WL (L ++ stM seq (X ++ [y])) ∧ OkX L seq (X ++ [y]) ∧ (∀ d c, sumT (L ++ stM seq (X ++ [y])) 2 d c = sumT (L ++ stM seq X) 2 d c + atT y d c) ∧ (∀ d c, sumT (L ++ stM seq (X ++ [y])) 3 d c = sumT (L ++ stM seq X) 3 d c - atT y d c) ∧ L ++ stM seq (X ++ [y]) = (L ++ stM seq X) ++ [stamp 0 seq y] := by
  have e1 : L ++ stM seq (X ++ [y]) = (L ++ stM seq X) ++ [stamp 0 seq y] := by rw [stM_snoc, List.append_assoc]
  refine ⟨?_, hok.snoc hw, fun d c => ?_, fun d c => ?_, e1⟩
  · rw [e1]; exact hwl.snoc hw (Int.le_refl 0) hs (seqOf_st hq)
  · rw [e1, sum_snoc2 (hy.stamp 0 seq)]; rfl
  · rw [e1, sum_snoc3 (hy.stamp 0 seq)]; rfl

theorem mem_snoc {α : Type} {X : List α} {y a : α} : a ∈ X ++ [y] ↔ a ∈ X ∨ a = y := by simp
theorem StG.rev {L : List EnP} {seq : Int} {X : List EnP} {N : Int → Prop} {δ : Int → Int → Int} {F : Cg → Prop} (h : StG L seq X N δ F) (hsh : ∀ e ∈ L, BkE e) (hs : 0 ≤ seq) (hq : seqOf L ≤ seq) {i : Nat} {e : EnP} (hi : L[i]? = some e) (hr : e.s.ref = -1) (hv : revI L (i : Int) = none) (hN : ¬ N (i : Int)) :
    StG L seq (X ++ [revP e i]) (fun no => N no ∨ no = (i : Int)) (fun d c => δ d c - atT e d c) F := by
  have hb := hsh e (List.mem_of_getElem? hi)
  obtain ⟨hy, hya⟩ := hb.rev (i : Int)
  have hlt := (List.getElem?_eq_some_iff.1 hi).1
  have hi2 : (L ++ stM seq X)[i]? = some e := by rw [List.getElem?_append_left hlt]; exact hi
  have hv2 : revI (L ++ stM seq X) (i : Int) = none := (h.rv _ (Int.natCast_nonneg i)).2 ⟨hv, hN⟩
  have hne : (revP e (i : Int)).s.ref ≠ -1 := by show (i : Int) ≠ -1; omega
  have hw : wrongE (L ++ stM seq X) (revP e i) = 0 := by
    have hc : checkE (revP e (i : Int)).s (revP e (i : Int)).ls = 0 := hy.check (Int.le_refl 0) (Int.le_refl 0) (show -1 ≤ (i : Int) by omega)
    rw [wrongE_in (old := e) hc hne (by show (L ++ stM seq X)[((i : Int)).toNat]? = _; rw [Int.toNat_natCast]; exact hi2)]
    rw [show (revP e (i : Int)).s.ref = (i : Int) from rfl, hv2]
    rw [if_neg (by simp), if_neg (by simpa using hr), if_pos (by unfold mirB revP Six.tag; simp)]
  obtain ⟨g1, g2, g3, g4, g5⟩ := st_put hs hq h.wl h.ok hy hw
  have hat : ∀ d c, atT (revP e (i : Int)) d c = -atT e d c := fun d c => by
    unfold atT
    rw [hya]
    show (if e.s.day = d ∧ e.s.cur = c then _ else _) = _
    by_cases hk : e.s.day = d ∧ e.s.cur = c
    · rw [if_pos hk, if_pos hk]
    · rw [if_neg hk, if_neg hk]; rfl
  refine ⟨g1, fun a ha => ?_, g2, fun no hn => ?_, fun d c => ?_, fun d c => ?_, fun i' j' a b ha hb' har hbr hab => ?_, fun a ha har => ?_, fun c hc hn => mem_snoc.2 (.inl (h.of c hc hn))⟩
  · rcases mem_snoc.1 ha with ha | rfl
    · exact h.sh a ha
    · exact hy
  · rw [g5]
    by_cases hno : revI (L ++ stM seq X) no = none
    · rw [revI_st hno]
      have h1 := (h.rv no hn).1 hno
      constructor
      · intro h2
        exact ⟨h1.1, fun h3 => h3.elim h1.2 fun e1 => h2 ⟨e1.symm, hn⟩⟩
      · rintro ⟨_, h3⟩ ⟨h4, _⟩
        exact h3 (.inr h4.symm)
    · have h1 : ¬ (revI L no = none ∧ ¬ N no) := fun hh => hno ((h.rv no hn).2 hh)
      constructor
      · intro h2
        obtain ⟨k, hk⟩ := Option.ne_none_iff_exists'.1 hno
        rw [revI_up hk] at h2
        cases h2
      · rintro ⟨h2, h3⟩
        exact absurd ⟨h2, fun h4 => h3 (.inl h4)⟩ h1
  · rw [g3, h.s2, hat]; omega
  · rw [g4, h.s3, hat]; omega
  · rcases get_snoc ha with ha | ⟨rfl, rfl⟩
    · rcases get_snoc hb' with hb' | ⟨rfl, rfl⟩
      · exact h.nd i' j' a b ha hb' har hbr hab
      · exact absurd hbr hne
    · exact absurd har hne
  · rcases mem_snoc.1 ha with ha | rfl
    · exact h.fl a ha har
    · exact absurd har hne
theorem StG.flow {L : List EnP} {seq : Int} {X : List EnP} {N : Int → Prop} {δ : Int → Int → Int} {F : Cg → Prop} (h : StG L seq X N δ F) (hs : 0 ≤ seq) (hq : seqOf L ≤ seq) {c : Cg} (hc : MayF ⟨c.d, c.c, c.n⟩) (hD : ∀ c', F c' → c'.n ≠ 0 → (c'.d, c'.c) ≠ (c.d, c.c)) :
    StG L seq (X ++ [flowP 1 c.d c.c c.n 2 3]) N (fun d k => δ d k + if c.d = d ∧ c.c = k then c.n else 0) (fun c' => F c' ∨ c' = c) := by
  have hy : BkE (flowP 1 c.d c.c c.n 2 3) := hc.bk
  have hw : wrongE (L ++ stM seq X) (flowP 1 c.d c.c c.n 2 3) = 0 := wrongE_new (hy.check (Int.le_refl 0) (Int.le_refl 0) (Int.le_refl (-1))) rfl
  obtain ⟨g1, g2, g3, g4, g5⟩ := st_put hs hq h.wl h.ok hy hw
  have hat : ∀ d k, atT (flowP 1 c.d c.c c.n 2 3) d k = if c.d = d ∧ c.c = k then c.n else 0 := fun d k => rfl
  have hkey : ∀ a ∈ X, a.s.ref = -1 → (a.s.day, a.s.cur) ≠ (c.d, c.c) := fun a ha har => by
    obtain ⟨c', h1, h2, rfl⟩ := h.fl a ha har
    exact hD c' h1 h2
  refine ⟨g1, fun a ha => ?_, g2, fun no hn => ?_, fun d k => ?_, fun d k => ?_, fun i' j' a b ha hb' har hbr hab => ?_, fun a ha har => ?_, fun c' hc' hn => ?_⟩
  · rcases mem_snoc.1 ha with ha | rfl
    · exact h.sh a ha
    · exact hy
  · rw [g5]
    by_cases hno : revI (L ++ stM seq X) no = none
    · rw [revI_st hno]
      have h1 := (h.rv no hn).1 hno
      exact ⟨fun _ => h1, fun _ hh => by
        have h2 : (-1 : Int) = no := hh.1
        omega⟩
    · constructor
      · intro h2
        obtain ⟨k, hk⟩ := Option.ne_none_iff_exists'.1 hno
        rw [revI_up hk] at h2
        cases h2
      · intro h2
        exact absurd ((h.rv no hn).2 h2) hno
  · rw [g3, h.s2, hat]; omega
  · rw [g4, h.s3, hat]; omega
  · rcases get_snoc ha with ha | ⟨rfl, rfl⟩
    · rcases get_snoc hb' with hb' | ⟨rfl, rfl⟩
      · exact h.nd i' j' a b ha hb' har hbr hab
      · exact absurd hab (hkey a (List.mem_of_getElem? ha) har)
    · rcases get_snoc hb' with hb' | ⟨rfl, rfl⟩
      · exact absurd hab.symm (hkey b (List.mem_of_getElem? hb') hbr)
      · rfl
  · rcases mem_snoc.1 ha with ha | rfl
    · obtain ⟨c', h1, h2, h3⟩ := h.fl a ha har
      exact ⟨c', .inl h1, h2, h3⟩
    · exact ⟨c, .inr rfl, hc.n0, rfl⟩
  · rcases hc' with hc' | rfl
    · exact mem_snoc.2 (.inl (h.of c' hc' hn))
    · exact mem_snoc.2 (.inr rfl)

/-- A change of books. -/
structure CgOk (L : List EnP) (c : Cg) : Prop where
  a : (c.no = -1 ∧ c.o = 0) ∨ ∃ (i : Nat) (e : EnP), L[i]? = some e ∧ c.no = (i : Int) ∧ e.s.ref = -1 ∧ revI L (i : Int) = none ∧ e.s.day = c.d ∧ e.s.cur = c.c ∧ amE e = c.o
  b : c.n ≠ 0 → MayF ⟨c.d, c.c, c.n⟩
theorem CgOk.ch {L : List EnP} {c : Cg} (h : CgOk L c) (hwl : WL L) : chE 1 2 3 (errL L) (ansL L) c = 0 := by
  have hf : flE 1 2 3 c = 0 := by
    unfold flE
    by_cases hn : c.n = 0
    · rw [if_pos hn]
    · rw [if_neg hn]
      have hb := h.b hn
      have h1 := hb.day
      have h2 := hb.cur
      have h3 := hb.bd
      dsimp only at h1 h2 h3
      unfold flowErr
      rw [if_pos (by unfold tagOk; rw [belowB_of (by omega), belowB_of (by omega), belowB_of (by omega)]; rfl), if_pos (by decide), if_pos (by decide), if_neg (by decide), if_neg hn, if_neg (by omega)]
  have hr : rvE (errL L) (ansL L) c = 0 := by
    unfold rvE
    rcases h.a with ⟨h1, _⟩ | ⟨i, e, h1, h2, h3, _⟩
    · rw [if_pos h1]
    · have hlt := (List.getElem?_eq_some_iff.1 h1).1
      rw [if_neg (by omega), if_pos (by unfold errL; rw [if_pos (by omega)]), h2, ansL_at h1]
      unfold revErr
      rw [if_pos (hwl.ck e (List.mem_of_getElem? h1)), if_pos h3, if_neg (by omega)]
  unfold chE
  rw [if_pos hr]
  exact hf
structure StQ (L : List EnP) (seq : Int) (q : List Cg) : Prop where
  g : StG L seq (entsL 1 2 3 (ansL L) q) (fun no => ∃ c ∈ q, c.no = no) (dq q) (fun c => c ∈ q)
  ln : (entsL 1 2 3 (ansL L) q).length = (q.filter fun c => decide (c.no ≠ -1)).length + (q.filter fun c => decide (c.n ≠ 0)).length
theorem entsL_snoc (con h v : Int) (ans : Int → EnP) (q : List Cg) (c : Cg) : entsL con h v ans (q ++ [c]) = entsL con h v ans q ++ chL con h v ans c := by
  unfold entsL
  rw [List.flatMap_append]
  simp
theorem StQ.step {L : List EnP} {seq : Int} {q : List Cg} {c : Cg} (h : StQ L seq q) (hsh : ∀ e ∈ L, BkE e) (hs : 0 ≤ seq) (hq : seqOf L ≤ seq) (hc : CgOk L c) (hC : ∀ c' ∈ q, c'.no = c.no → c.no = -1) (hD : ∀ c' ∈ q, (c'.d, c'.c) ≠ (c.d, c.c)) : StQ L seq (q ++ [c]) := by
  have e1 := entsL_snoc 1 2 3 (ansL L) q c
  have hmid : ∃ δ', StG L seq (entsL 1 2 3 (ansL L) q ++ rvL (ansL L) c) (fun no => ∃ c' ∈ q ++ [c], c'.no = no) δ' (fun c => c ∈ q) ∧ (∀ d k, δ' d k = dq q d k - if c.d = d ∧ c.c = k then c.o else 0) ∧ (rvL (ansL L) c).length = ([c].filter fun c => decide (c.no ≠ -1)).length := by
    rcases hc.a with ⟨h1, h2⟩ | ⟨i, e, h1, h2, h3, h4, h5, h6, h7⟩
    · have er : rvL (ansL L) c = [] := if_pos h1
      refine ⟨dq q, ?_, fun d k => by rw [h2]; simp, by rw [er]; simp [h1]⟩
      rw [er, List.append_nil]
      refine h.g.congr (fun no hn => ?_) (fun _ _ => rfl) (fun _ _ => Iff.rfl)
      constructor
      · rintro ⟨c', hc', e'⟩; exact ⟨c', mem_snoc.2 (.inl hc'), e'⟩
      · rintro ⟨c', hc', e'⟩
        rcases mem_snoc.1 hc' with hc' | rfl
        · exact ⟨c', hc', e'⟩
        · omega
    · have hne : c.no ≠ -1 := by omega
      have er : rvL (ansL L) c = [revP e (i : Int)] := by
        unfold rvL
        rw [if_neg hne, h2, ansL_at h1]
      have g := h.g.rev hsh hs hq h1 h3 h4 (fun ⟨c', hc', e'⟩ => hne (hC c' hc' (by omega)))
      have g2 := g.congr (N' := fun no => ∃ c' ∈ q ++ [c], c'.no = no) (fun no hn => by
        constructor
        · rintro (⟨c', hc', e'⟩ | e')
          · exact ⟨c', mem_snoc.2 (.inl hc'), e'⟩
          · exact ⟨c, mem_snoc.2 (.inr rfl), by omega⟩
        · rintro ⟨c', hc', e'⟩
          rcases mem_snoc.1 hc' with hc' | rfl
          · exact .inl ⟨c', hc', e'⟩
          · exact .inr (by omega)) (fun _ _ => rfl) (fun _ _ => Iff.rfl)
      refine ⟨_, by rw [er]; exact g2, fun d k => ?_, by rw [er]; simp [hne]⟩
      unfold atT
      rw [h5, h6, h7]
  obtain ⟨δ', hg, hδ, hl1⟩ := hmid
  have hdq : ∀ d k, dq (q ++ [c]) d k = δ' d k + if c.d = d ∧ c.c = k then c.n else 0 := fun d k => by
    rw [dq_snoc, hδ]
    by_cases hk : c.d = d ∧ c.c = k
    · rw [if_pos hk, if_pos hk, if_pos hk]; omega
    · rw [if_neg hk, if_neg hk, if_neg hk]; omega
  have hl2 : (flL 1 2 3 c).length = ([c].filter fun c => decide (c.n ≠ 0)).length := by
    unfold flL
    by_cases hn : c.n = 0
    · rw [if_pos hn]; simp [hn]
    · rw [if_neg hn]; simp [hn]
  refine ⟨?_, ?_⟩
  · rw [e1]
    unfold chL
    rw [← List.append_assoc]
    by_cases hn : c.n = 0
    · have ef : flL 1 2 3 c = [] := if_pos hn
      rw [ef, List.append_nil]
      refine hg.congr (fun _ _ => Iff.rfl) (fun d k => by rw [hdq, hn]; simp) (fun c' hc' => ?_)
      constructor
      · intro h1; exact mem_snoc.2 (.inl h1)
      · intro h1
        rcases mem_snoc.1 h1 with h1 | rfl
        · exact h1
        · exact absurd hn hc'
    · have ef : flL 1 2 3 c = [flowP 1 c.d c.c c.n 2 3] := if_neg hn
      rw [ef]
      exact (hg.flow hs hq (hc.b hn) (fun c' hc' _ => hD c' hc')).congr (fun _ _ => Iff.rfl) (fun d k => (hdq d k).symm) (fun c' _ => mem_snoc.symm)
  · rw [e1, List.length_append, h.ln]
    unfold chL
    rw [List.length_append, hl1, hl2, List.filter_append, List.filter_append, List.length_append, List.length_append]
    omega

end Go.Proofs.YtmjgcenhgpkhiaaDoor
namespace Go.Proofs.YtmjgcenhgpkhiaaDoor
open Go.RowKit Go.Sort Go.Shelf
set_option linter.unusedVariables false
set_option linter.unusedSimpArgs false

theorem want_some {g : List Fl} {k : KD} (h : wantAt g k ≠ 0) : ∃ y ∈ g, y.ky = k ∧ y.a = wantAt g k := by
  unfold wantAt at h ⊢
  cases hf : g.find? (fun x => decide (x.ky = k)) with
  | none => rw [hf] at h; exact absurd rfl h
  | some y => exact ⟨y, List.mem_of_find?_eq_some hf, by simpa using List.find?_some hf, rfl⟩
theorem lv_one {L : List EnP} {x z : Lv} (hx : x ∈ lvs L) (hz : z ∈ lvs L) (e : x.no = z.no) : x = z := by
  obtain ⟨i, hi, e1⟩ := List.getElem_of_mem hx
  obtain ⟨k, hk, e2⟩ := List.getElem_of_mem hz
  have h3 : ((lvs L).map Lv.no)[i]? = ((lvs L).map Lv.no)[k]? := by
    rw [List.getElem?_map, List.getElem?_map, List.getElem?_eq_getElem hi, List.getElem?_eq_getElem hk, e1, e2]
    simp [e]
  have h4 : i = k := (List.getElem?_inj (by simpa using hi) (lvs_nos L)).1 h3
  subst h4
  rw [← e1, e2]
theorem plan_cg {L : List EnP} {f g : List Fl} {pl : List Cg} (h : Bks L f) (hg : ∀ y ∈ g, MayF y) (hp : IsPlan (lvs L) g pl) : ∀ c ∈ pl, CgOk L c := fun c hc => by
  rcases ((hp.mem c).1 hc).1 with ⟨x, hx, rfl⟩ | ⟨y, hy, _, rfl⟩
  · obtain ⟨i, e, h1, h2, h3, rfl⟩ := (lvs_mem h.sh).1 hx
    refine ⟨.inr ⟨i, e, h1, rfl, h2, h3, rfl, rfl, rfl⟩, fun hn => ?_⟩
    obtain ⟨y, hy, e1, e2⟩ := want_some hn
    have hm := hg y hy
    obtain ⟨yd, yc, ya⟩ := y
    unfold Fl.ky Lv.ky at e1
    simp only [Prod.mk.injEq] at e1
    obtain ⟨rfl, rfl⟩ := e1
    dsimp only at e2 ⊢
    rw [← e2]
    exact hm
  · exact ⟨.inl ⟨rfl, rfl⟩, fun _ => hg y hy⟩
theorem StQ.nil {L : List EnP} (hw : WL L) (seq : Int) : StQ L seq [] := by
  refine ⟨⟨?_, fun e he => by simp [entsL] at he, fun i x hx => by simp [entsL] at hx, fun no hn => ?_, fun d c => ?_, fun d c => ?_, fun i j a b ha => by simp [entsL] at ha, fun e he => by simp [entsL] at he, fun c hc => by simp at hc⟩, rfl⟩
  all_goals simp only [entsL, List.flatMap_nil, stM, List.map_nil, List.append_nil]
  · exact hw
  · simp
  · simp [dq]
  · simp [dq]
theorem StQ.all {L : List EnP} {f g : List Fl} {pl : List Cg} {seq : Int} (h : Bks L f) (hg : ∀ y ∈ g, MayF y) (hp : IsPlan (lvs L) g pl) (hs : 0 ≤ seq) (hq : seqOf L ≤ seq) : StQ L seq pl := by
  have hk : ∀ k, k ≤ pl.length → StQ L seq (pl.take k) := fun k => by
    induction k with
    | zero => intro _; rw [List.take_zero]; exact StQ.nil h.wl seq
    | succ k ih =>
      intro hk
      have hlt : k < pl.length := hk
      rw [List.take_succ_eq_append_getElem hlt]
      have hpre : ∀ c' ∈ pl.take k, ltK c'.ky (pl[k]).ky := fun c' hc' => by
        obtain ⟨i, hi, rfl⟩ := List.getElem_of_mem hc'
        rw [List.length_take] at hi
        rw [List.getElem_take]
        exact List.pairwise_iff_getElem.1 hp.ra i k (by omega) hlt (by omega)
      refine (ih (by omega)).step h.sh hs hq (plan_cg h hg hp _ (List.getElem_mem hlt)) (fun c' hc' e => ?_) (fun c' hc' => ltK_ne (hpre c' hc'))
      refine Decidable.byContradiction fun hne => ?_
      have m1 := ((hp.mem _).1 (List.mem_of_mem_take hc')).1
      have m2 := ((hp.mem _).1 (List.getElem_mem hlt)).1
      rcases m2 with ⟨x, hx, e2⟩ | ⟨y, _, _, e2⟩
      · rcases m1 with ⟨z, hz, e1⟩ | ⟨y, _, _, e1⟩
        · have : z = x := lv_one hz hx (by rw [e1, e2] at e; exact e)
          subst this
          exact ltK_ne (hpre c' hc') (by rw [e1, e2])
        · rw [e1] at e; exact hne e.symm
      · rw [e2] at hne; exact hne rfl
  have := hk pl.length (Nat.le_refl _)
  rwa [List.take_length] at this
theorem dq_none {pl : List Cg} {d c : Int} (h : ∀ x ∈ pl, x.ky ≠ (d, c)) : dq pl d c = 0 := by
  unfold dq
  rw [List.filter_eq_nil_iff.2 (fun x hx => by
    have := h x hx
    unfold Cg.ky at this
    simp only [ne_eq, Prod.mk.injEq] at this
    simpa using this)]
  rfl
theorem dq_one {x : Cg} {d c : Int} : ∀ {pl : List Cg}, Rising Cg.ky pl → x ∈ pl → x.ky = (d, c) → dq pl d c = x.n - x.o
  | [], _, hx, _ => by simp at hx
  | y :: pl, hr, hx, he => by
    have hr' := List.pairwise_cons.1 hr
    have he' : x.d = d ∧ x.c = c := by unfold Cg.ky at he; simpa using he
    rcases List.mem_cons.1 hx with rfl | hx
    · have h0 := dq_none (pl := pl) (d := d) (c := c) (fun z hz e => ltK_ne (hr'.1 z hz) (by rw [he, e]))
      unfold dq at h0 ⊢
      rw [List.filter_cons_of_pos (by simpa using he'), List.map_cons, List.sum_cons, h0]
      omega
    · have hy : ¬ (y.d = d ∧ y.c = c) := fun e => ltK_ne (hr'.1 x hx) (by rw [he]; unfold Cg.ky; rw [e.1, e.2])
      have ih := dq_one (pl := pl) hr'.2 hx he
      unfold dq at ih ⊢
      rw [List.filter_cons_of_neg (by simpa using hy)]
      exact ih
theorem amE_flow (con d c n h v : Int) (seq : Int) : amE (stamp 0 seq (flowP con d c n h v)) = n := rfl

section
variable {L : List EnP} {f g : List Fl} {pl : List Cg} {seq : Int}
theorem sh_turn (h : Bks L f) (hQ : StQ L seq pl) : ∀ e ∈ L ++ stM seq (entsL 1 2 3 (ansL L) pl), BkE e := fun e he => by
  rcases List.mem_append.1 he with he | he
  · exact h.sh e he
  · unfold stM at he
    obtain ⟨x, hx, rfl⟩ := List.mem_map.1 he
    exact (hQ.g.sh x hx).stamp 0 seq
theorem lvs_turn (h : Bks L f) (hg : ∀ y ∈ g, MayF y) (hp : IsPlan (lvs L) g pl) (hQ : StQ L seq pl) (x : Lv) : x ∈ lvs (L ++ stM seq (entsL 1 2 3 (ansL L) pl)) ↔
    (x ∈ lvs L ∧ ∀ c ∈ pl, c.no ≠ x.no) ∨ (∃ (j : Nat) (c : Cg), (entsL 1 2 3 (ansL L) pl)[j]? = some (flowP 1 c.d c.c c.n 2 3) ∧ c ∈ pl ∧ c.n ≠ 0 ∧ x = ⟨((L.length + j : Nat) : Int), c.d, c.c, c.n⟩) := by
  rw [lvs_mem (sh_turn h hQ)]
  constructor
  · rintro ⟨i, e, h1, h2, h3, rfl⟩
    have hrv := (hQ.g.rv (i : Int) (Int.natCast_nonneg i)).1 h3
    by_cases hlt : i < L.length
    · rw [List.getElem?_append_left hlt] at h1
      exact .inl ⟨(lvs_mem h.sh).2 ⟨i, e, h1, h2, hrv.1, rfl⟩, fun c hc e' => hrv.2 ⟨c, hc, e'⟩⟩
    · rw [List.getElem?_append_right (by omega)] at h1
      unfold stM at h1
      rw [List.getElem?_map] at h1
      obtain ⟨x, hx, rfl⟩ := Option.map_eq_some_iff.1 h1
      obtain ⟨c, hc, hn, rfl⟩ := hQ.g.fl x (List.mem_of_getElem? hx) h2
      refine .inr ⟨i - L.length, c, hx, hc, hn, ?_⟩
      rw [amE_flow, show L.length + (i - L.length) = i by omega]
      rfl
  · rintro (⟨hx, hno⟩ | ⟨j, c, hj, hc, hn, rfl⟩)
    · obtain ⟨i, e, h1, h2, h3, rfl⟩ := (lvs_mem h.sh).1 hx
      have hlt := (List.getElem?_eq_some_iff.1 h1).1
      exact ⟨i, e, by rw [List.getElem?_append_left hlt]; exact h1, h2, (hQ.g.rv _ (Int.natCast_nonneg i)).2 ⟨h3, fun ⟨c, hc, e'⟩ => hno c hc e'⟩, rfl⟩
    · refine ⟨L.length + j, stamp 0 seq (flowP 1 c.d c.c c.n 2 3), ?_, rfl, (hQ.g.rv _ (Int.natCast_nonneg _)).2 ⟨?_, fun ⟨c', hc', e'⟩ => ?_⟩, rfl⟩
      · rw [List.getElem?_append_right (by omega), Nat.add_sub_cancel_left]
        unfold stM
        rw [List.getElem?_map, hj]
        rfl
      · cases hv : revI L ((L.length + j : Nat) : Int) with
        | none => rfl
        | some k =>
          obtain ⟨e, h1, h2, _⟩ := revI_some hv
          have h3 := h.wl.refs h1 (by omega)
          have h4 := (List.getElem?_eq_some_iff.1 h1).1
          omega
      · rcases (plan_cg h hg hp c' hc').a with ⟨h1, _⟩ | ⟨i, e, h1, h2, _⟩
        · omega
        · have := (List.getElem?_eq_some_iff.1 h1).1
          omega
theorem Bks.turn (h : Bks L f) (hg : ∀ y ∈ g, MayF y) (ho : ordB g = true) (hp : IsPlan (lvs L) g pl) (hQ : StQ L seq pl) : Bks (L ++ stM seq (entsL 1 2 3 (ansL L) pl)) g := by
  have hR := (ordB_ok ho).2
  have hRf := (ordB_ok h.od).2
  have hlt := lvs_turn h hg hp hQ
  have hone : ∀ {x z : Lv}, x ∈ lvs L → z ∈ lvs L → x.ky = z.ky → x = z := fun hx hz e => one_live h.ky hx hz e
  have hold : ∀ x ∈ lvs L, (∀ c ∈ pl, c.no ≠ x.no) → wantAt g x.ky = x.a := fun x hx hno => by
    refine Decidable.byContradiction fun hne => ?_
    exact hno _ ((hp.mem ⟨x.no, x.d, x.c, x.a, wantAt g x.ky⟩).2 ⟨.inl ⟨x, hx, rfl⟩, fun e => hne e.symm⟩) rfl
  have hnew : ∀ c ∈ pl, c.n ≠ 0 → (⟨c.d, c.c, c.n⟩ : Fl) ∈ g := fun c hc hn => by
    rcases ((hp.mem c).1 hc).1 with ⟨x, hx, rfl⟩ | ⟨y, hy, _, rfl⟩
    · obtain ⟨y, hy, e1, e2⟩ := want_some hn
      obtain ⟨yd, yc, ya⟩ := y
      unfold Fl.ky Lv.ky at e1
      simp only [Prod.mk.injEq] at e1
      obtain ⟨rfl, rfl⟩ := e1
      dsimp only at e2 ⊢
      rw [← e2]
      exact hy
    · exact hy
  refine ⟨hQ.g.wl, sh_turn h hQ, nodup_on (nodup_of_map (lvs_nos _)) (fun x hx z hz e => ?_), fun y => ?_, fun d c => ?_, ho, hg⟩
  · have hcross : ∀ {x : Lv} {j : Nat} {c : Cg}, x ∈ lvs L → (∀ c ∈ pl, c.no ≠ x.no) → c ∈ pl → x.ky ≠ (c.d, c.c) := fun {x j c} hx hno hc e' => by
      rcases ((hp.mem c).1 hc).1 with ⟨x', hx', rfl⟩ | ⟨y, hy, hny, rfl⟩
      · have := hone hx hx' e'
        subst this
        exact hno _ hc rfl
      · exact hny x hx e'
    rcases (hlt x).1 hx with ⟨hx, hno⟩ | ⟨j, c, hj, hc, hn, rfl⟩
    · rcases (hlt z).1 hz with ⟨hz, hnz⟩ | ⟨j, c, hj, hc, hn, rfl⟩
      · exact hone hx hz e
      · exact absurd e (hcross (j := j) hx hno hc)
    · rcases (hlt z).1 hz with ⟨hz, hnz⟩ | ⟨j', c', hj', hc', hn', rfl⟩
      · exact absurd e.symm (hcross (j := j) hz hnz hc)
      · have hjj : j = j' := hQ.g.nd j j' _ _ hj hj' rfl rfl e
        subst hjj
        rw [hj] at hj'
        have e3 := Option.some.inj hj'
        have e4 : c.d = c'.d := congrArg (fun a : EnP => a.s.day) e3
        have e5 : c.c = c'.c := congrArg (fun a : EnP => a.s.cur) e3
        have e6 : c.n = c'.n := congrArg amE e3
        rw [e4, e5, e6]
  · constructor
    · intro hy
      by_cases hx : ∃ x ∈ lvs L, x.ky = y.ky
      · obtain ⟨x, hx, e⟩ := hx
        have hw : wantAt g x.ky = y.a := by rw [e]; exact wantAt_in hR hy
        by_cases ha : x.a = y.a
        · refine ⟨x, (hlt x).2 (.inl ⟨hx, fun c hc e' => ?_⟩), ?_⟩
          · rcases (hp.mem c).1 hc with ⟨⟨x', hx', rfl⟩ | ⟨y', _, _, rfl⟩, hne⟩
            · have := lv_one hx' hx e'
              subst this
              exact hne (by show x'.a = wantAt g x'.ky; rw [hw, ha])
            · obtain ⟨i, _, _, _, _, rfl⟩ := (lvs_mem h.sh).1 hx
              have e2 : (-1 : Int) = (i : Int) := e'
              omega
          · obtain ⟨yd, yc, ya⟩ := y
            unfold Fl.ky Lv.ky at e
            simp only [Prod.mk.injEq] at e
            dsimp only at ha
            rw [e.1, e.2, ha]
        · have hc : (⟨x.no, x.d, x.c, x.a, wantAt g x.ky⟩ : Cg) ∈ pl := (hp.mem _).2 ⟨.inl ⟨x, hx, rfl⟩, by show x.a ≠ wantAt g x.ky; rw [hw]; exact ha⟩
          have hn : wantAt g x.ky ≠ 0 := by rw [hw]; exact (hg y hy).n0
          obtain ⟨j, hj⟩ := List.getElem?_of_mem (hQ.g.of _ hc hn)
          refine ⟨_, (hlt _).2 (.inr ⟨j, _, hj, hc, hn, rfl⟩), ?_⟩
          obtain ⟨yd, yc, ya⟩ := y
          unfold Fl.ky Lv.ky at e
          simp only [Prod.mk.injEq] at e
          dsimp only at hw ⊢
          rw [e.1, e.2, hw]
      · have hno : ∀ x ∈ lvs L, x.ky ≠ y.ky := fun x hx' e => hx ⟨x, hx', e⟩
        have hc : (⟨-1, y.d, y.c, 0, y.a⟩ : Cg) ∈ pl := (hp.mem _).2 ⟨.inr ⟨y, hy, hno, rfl⟩, fun e => (hg y hy).n0 e.symm⟩
        obtain ⟨j, hj⟩ := List.getElem?_of_mem (hQ.g.of _ hc (hg y hy).n0)
        exact ⟨_, (hlt _).2 (.inr ⟨j, _, hj, hc, (hg y hy).n0, rfl⟩), rfl⟩
    · rintro ⟨x, hx, rfl⟩
      rcases (hlt x).1 hx with ⟨hx, hno⟩ | ⟨j, c, hj, hc, hn, rfl⟩
      · have hw := hold x hx hno
        obtain ⟨i, e, h1, _, _, rfl⟩ := (lvs_mem h.sh).1 hx
        have hb := (h.sh e (List.mem_of_getElem? h1)).n0
        obtain ⟨y, hy, e1, e2⟩ := want_some (g := g) (k := Lv.ky ⟨i, e.s.day, e.s.cur, amE e⟩) (by rw [hw]; exact hb)
        rw [hw] at e2
        obtain ⟨yd, yc, ya⟩ := y
        unfold Fl.ky Lv.ky at e1
        simp only [Prod.mk.injEq] at e1
        dsimp only at e2 ⊢
        rw [← e1.1, ← e1.2, ← e2]
        exact hy
      · exact hnew c hc hn
  · have hd : wantAt f (d, c) + dq pl d c = wantAt g (d, c) := by
      by_cases hk : ∃ z ∈ pl, z.ky = (d, c)
      · obtain ⟨z, hz, e⟩ := hk
        rw [dq_one hp.ra hz e]
        rcases ((hp.mem z).1 hz).1 with ⟨x, hx, rfl⟩ | ⟨y, hy, hny, rfl⟩
        · have h1 : wantAt f (d, c) = x.a := by
            have := wantAt_in hRf ((h.me ⟨x.d, x.c, x.a⟩).2 ⟨x, hx, rfl⟩)
            rw [← e]
            exact this
          have h2 : wantAt g x.ky = wantAt g (d, c) := by rw [← e]; rfl
          dsimp only
          rw [h1, h2]
          omega
        · have h1 : wantAt f (d, c) = 0 := wantAt_out fun y' hy' e' => by
            obtain ⟨x, hx, rfl⟩ := (h.me y').1 hy'
            exact hny x hx (show Lv.ky x = _ by rw [show Lv.ky x = (d, c) from e', ← e]; rfl)
          have h2 : wantAt g (d, c) = y.a := by rw [← e]; exact wantAt_in hR hy
          dsimp only
          rw [h1, h2]
          omega
      · have hk' : ∀ z ∈ pl, z.ky ≠ (d, c) := fun z hz e => hk ⟨z, hz, e⟩
        rw [dq_none hk', Int.add_zero]
        by_cases hx : ∃ x ∈ lvs L, x.ky = (d, c)
        · obtain ⟨x, hx, e⟩ := hx
          have h1 : wantAt f (d, c) = x.a := by
            have := wantAt_in hRf ((h.me ⟨x.d, x.c, x.a⟩).2 ⟨x, hx, rfl⟩)
            rw [← e]
            exact this
          rw [h1, ← e]
          refine Decidable.byContradiction fun hne => ?_
          exact hk' _ ((hp.mem ⟨x.no, x.d, x.c, x.a, wantAt g x.ky⟩).2 ⟨.inl ⟨x, hx, rfl⟩, hne⟩) e
        · have h1 : wantAt f (d, c) = 0 := wantAt_out fun y' hy' e' => by
            obtain ⟨x, hx', rfl⟩ := (h.me y').1 hy'
            exact hx ⟨x, hx', e'⟩
          rw [h1]
          refine (wantAt_out fun y hy e => ?_).symm
          exact hk' _ ((hp.mem ⟨-1, y.d, y.c, 0, y.a⟩).2 ⟨.inr ⟨y, hy, fun x hx' e' => hx ⟨x, hx', by rw [e', e]⟩, rfl⟩, fun e0 => (hg y hy).n0 e0.symm⟩) e
    have h1 := h.su d c
    exact ⟨by rw [hQ.g.s2, h1.1, hd], by rw [hQ.g.s3, h1.2]; omega⟩
end

end Go.Proofs.YtmjgcenhgpkhiaaDoor
namespace Go.Proofs.YtmjgcenhgpkhiaaDoor
open Go.RowKit Go.Sort Go.Shelf
set_option linter.unusedVariables false
set_option linter.unusedSimpArgs false
set_option maxRecDepth 100000

theorem wf_nat {n : Nat} (h : n ≤ 1000000) : (Lit.int .i64 (n : Int)).wf = true := by
  simp [Lit.wf, IntKind.min, IntKind.max, IntKind.signed, IntKind.bits]
  omega
theorem Per.turnB {A C : World} {bs : List Nat} {b s : Nat} {size locked : Int} (h : Per A b s size locked) (t : Turn bs A C) (h1 : b ∉ bs) (h2 : s ∉ bs) : Per C b s size locked := by
  have k1 := t.block b h.lt.1 h1
  have k2 := t.block s h.lt.2 h2
  refine ⟨(World.cell?_of_block k1).trans h.h0, (World.cell?_of_block k1).trans h.h1, (World.cell?_of_block k2).trans h.hs, ?_, h.ne⟩
  have hf := h.f1
  unfold World.frozen? at hf ⊢
  rw [k1]
  exact hf
/-- Books in memory. -/
structure BkS (W : World) (p b s : Nat) (L : List EnP) (f : List Fl) (V : World) : Prop where
  lg : ∃ bm a cap E, LgAt V p bm a cap E ∧ E.map En.p = L
  per : Per V b s 400 0
  bk : Bks L f
  be : Below W.heap.size W V
  hp : W.heap.size ≤ p
  hb : b ≠ p
  hs : s ≠ p
theorem BkS.after {W : World} {p b s : Nat} {L : List EnP} {f : List Fl} {V V' : World} (h : BkS W p b s L f V) (hb : Below V.heap.size V V') : BkS W p b s L f V' := by
  obtain ⟨bm, a, cap, E, h1, h2⟩ := h.lg
  exact ⟨⟨bm, a, cap, E, h1.after hb, h2⟩, h.per.after hb, h.bk, h.be.trans (hb.mono h.be.size), h.hp, h.hb, h.hs⟩
theorem lv_wf {L : List EnP} {f : List Fl} (h : Bks L f) (hl : L.length ≤ 1000) : ∀ x ∈ lvs L, (Lit.int .i64 x.no).wf = true := fun x hx => by
  obtain ⟨i, e, h1, _, _, rfl⟩ := (lvs_mem h.sh).1 hx
  have := (List.getElem?_eq_some_iff.1 h1).1
  exact wf_nat (by omega)
theorem live_of {w w' : World} {E : List En} {e : Ending} (h : SeqLEnd w E 1 e w') (hl : E.length ≤ 900) : ∃ Bc Bk, e = .returned (.func (.func 44) #[] #[.pointer (some ⟨Bc, 0, none⟩), .pointer (some ⟨Bk, 0, none⟩)]) ∧ Below w.heap.size w w' ∧
    Calls Tryd.prog 13 #[.int .i64 2, .func (.func 44) #[] #[.pointer (some ⟨Bc, 0, none⟩), .pointer (some ⟨Bk, 0, none⟩)]] w' (OfEnd w' 2 (liveP (E.map En.p) 1)) := by
  obtain ⟨Bc, Bk, rfl, ⟨pv, hA⟩, hk, hb, hln⟩ := h
  have hz := hb.size
  have hle : (liveP (E.map En.p) 1).length ≤ E.length := by
    have := List.length_filter_le (keepB (E.map En.p) 1) (idxP (E.map En.p))
    rw [idxP_len, List.length_map] at this
    exact this
  refine ⟨Bc, Bk, rfl, hb, of_any 44 _ 2 E.length _ (fun _ => True) w' hl (by omega) (fun z hz => ?_) (fun args w => by kernel_rfl) (fun w0 h0 => SeqTells.fact (live_tells 4 (by omega) w'.heap.size Bc Bk E 1 (by omega) (fun e he x hx hl => Nat.lt_of_lt_of_le (hln e he x hx hl) hz) w0 ⟨pv, fun W hW => hA W (h0.trans hW)⟩ (fun W hW => hk W (h0.trans hW)) h0.size) (fun x W hx => ⟨hx.1, ?_⟩))⟩
  · obtain ⟨i, h1, h2⟩ := idxP_mem.1 (List.mem_filter.1 hz).1
    have := (List.getElem?_eq_some_iff.1 h2).1
    rw [List.length_map] at this
    rw [h1]
    exact wf_nat (by omega)
  · have h2 := hx.2
    unfold keepB at h2
    simp only [Bool.and_eq_true, decide_eq_true_eq] at h2
    exact h2.1.2
theorem lent_getter {W : World} {p bm : Nat} {a : Option Addr} {cap : Nat} {E : List En} (h : LgAt W p bm a cap E) (hl : E.length ≤ 1000) : Getter 36 (.pointer (some ⟨p, 0, none⟩)) (errL (E.map En.p)) (ansL (E.map En.p)) W := by
  refine ⟨enters_of Tryd.func36 (by kernel_rfl) rfl, fun V hV no => ?_⟩
  by_cases hno : 0 ≤ no ∧ no < E.length
  · have hlt : no.toNat < E.length := by omega
    obtain ⟨x, hx⟩ : ∃ x, E[no.toNat]? = some x := ⟨_, List.getElem?_eq_getElem hlt⟩
    have hc := lent_in p bm a cap E V (h.after hV) (by omega) no.toNat x hx
    rw [show ((no.toNat : Nat) : Int) = no by omega] at hc
    refine hc.mono ?_
    rintro e V' ⟨c, cp, rfl, h1, h2, _⟩
    have he : errL (E.map En.p) no = 0 := by unfold errL; rw [List.length_map, if_pos hno]
    refine ⟨⟨x.s, c, cp, x.ls⟩, by rw [he]; rfl, h1, fun _ => ?_, h2⟩
    have := ansL_at (L := E.map En.p) (i := no.toNat) (e := x.p) (by rw [List.getElem?_map, hx]; rfl)
    rw [show ((no.toNat : Nat) : Int) = no by omega] at this
    rw [this]
    rfl
  · have hc := lent_out p bm a cap E V (h.after hV) no (by omega)
    refine hc.mono ?_
    rintro e V' ⟨rfl, h2⟩
    have he : errL (E.map En.p) no = 16 := by unfold errL; rw [List.length_map, if_neg hno]
    exact ⟨zeroEn, by rw [he]; rfl, zeroEn_ok _, (fun h0 => by rw [he] at h0; cases h0), h2⟩
theorem post_of {L X : List EnP} {seq : Int} (hs : 0 ≤ seq) (hq : seqOf L ≤ seq) (h : OkX L seq X) : postE true false 0 seq L X = 0 ∧ postL true false 0 seq L X = L ++ stM seq X := by
  have h1 : postK 0 seq L X = (0, L ++ X.map (stamp 0 seq)) := postK_ok h
  have h2 : postE true false 0 seq L X = 0 := by
    unfold postE
    rw [if_neg (by decide), if_neg (by decide), if_neg (by omega), h1]
  exact ⟨h2, by unfold postL; rw [if_pos h2]; rfl⟩
theorem ref_wf {L X : List EnP} {seq : Int} (hw : WL (L ++ stM seq X)) (hl : (L ++ stM seq X).length ≤ 1000) : ∀ x ∈ X, (Lit.int .i64 x.s.ref).wf = true := fun x hx => by
  have hm : stamp 0 seq x ∈ L ++ stM seq X := List.mem_append.2 (.inr (List.mem_map.2 ⟨x, hx, rfl⟩))
  obtain ⟨k, hk⟩ := List.getElem?_of_mem hm
  by_cases hr : x.s.ref = -1
  · rw [hr]; decide
  · have h1 := hw.refs hk hr
    have h2 := (List.getElem?_eq_some_iff.1 hk).1
    have h3 : (stamp 0 seq x).s.ref = x.s.ref := rfl
    rw [h3] at h1
    have := wf_nat (n := x.s.ref.toNat) (by omega)
    rwa [show ((x.s.ref.toNat : Nat) : Int) = x.s.ref by omega] at this

def TurnEnd (W : World) (p b s : Nat) (L : List EnP) (g : List Fl) (seq : Int) (V : World) (e : Ending) (w' : World) : Prop :=
  e = .returned (.bool true) ∧ ∃ pl, IsPlan (lvs L) g pl ∧ StQ L seq pl ∧ BkS W p b s (L ++ stM seq (entsL 1 2 3 (ansL L) pl)) g w'
set_option maxHeartbeats 8000000 in
theorem turn_ok (W : World) (hR : RulesAt W) (p b s : Nat) (L : List EnP) (f g : List Fl) (seq : Int) (ag : Option Addr) (cg : Nat) (V : World) (h : BkS W p b s L f V) (hl : L.length ≤ 200) (hg : SlG W 3 encW ag cg g) (hgl : g.length ≤ 20) (ho : ordB g = true) (hm : ∀ y ∈ g, MayF y) (hs : 0 ≤ seq) (hq : seqOf L ≤ seq) :
    Calls Tryd.prog 17 #[.pointer (some ⟨p, 0, none⟩), .pointer (some ⟨b, 0, none⟩), .int .i64 seq, .slice ag g.length cg] V (TurnEnd W p b s L g seq V) := by
  obtain ⟨bm, a, cap, E, hE, hEL⟩ := h.lg
  have hEl : E.length = L.length := by rw [← hEL, List.length_map]
  have hll : (lvs L).length ≤ L.length := by
    have h1 := lvsP_len 2 (liveP L 1)
    have h2 := List.length_filter_le (keepB L 1) (idxP L)
    rw [idxP_len] at h2
    exact Nat.le_trans h1 h2
  have hLi := llive_ok p bm a cap E 1 V hE (by omega) (by rw [hEL]; exact h.bk.wl)
  have H := Lib.hid h
  have HE := Lib.hid hE
  have HLi := Lib.hid hLi
  have HG := Lib.hid hg
  have HM := Lib.hid hm
  have HO := Lib.hid ho
  have HR := Lib.hid hR
  have HEL := Lib.hid hEL
  have HEl := Lib.hid hEl
  have HLl := Lib.hid hll
  have HS := Lib.hid hs
  have HQ := Lib.hid hq
  clear h hE hLi hg hm ho hR hEL hEl hll hs hq
  go_enter Tryd.func17, Tryd.ntmps17
  go_wp2_with fail
  with_reducible refine HLi.out.mono ?_
  intro e w1 he
  obtain ⟨Bc, Bk, rfl, hb1, hof⟩ := live_of he (by have := HEl.out; omega)
  rw [HEL.out] at hof
  have HOf := Lib.hid hof
  have HB1 := Lib.hid hb1
  clear he hof hb1
  go_wp2_with fail
  with_reducible refine HOf.out.mono ?_
  rintro e w2 ⟨a2, c2, rfl, hsl2, hb2⟩
  rw [show lvsP 2 (liveP L 1) = lvs L from rfl] at hsl2 ⊢
  have HB2 := Lib.hid (HB1.out.trans (hb2.mono HB1.out.size))
  have HBW2 := Lib.hid (H.out.be.trans (HB2.out.mono H.out.be.size))
  have hpk := plan_ok a2 c2 (lvs L) ag cg g w2 hsl2.g (HG.out.after HBW2.out) (by have := HLl.out; omega) (by omega) (lv_wf H.out.bk (by omega))
  have HPk := Lib.hid hpk
  clear hpk hsl2 hb2 HOf HLi
  go_wp2_with fail
  with_reducible refine HPk.out.mono ?_
  rintro e w3 ⟨a3, c3, pl, rfl, hsl3, hip, _, hb3, _, _⟩
  have hpe : planE (lvs L) g = 0 := by
    unfold planE
    rw [if_pos H.out.bk.ck]
    unfold ordE
    rw [if_pos HO.out]
  rw [hpe]
  have hIP := hip hpe
  have HIP := Lib.hid hIP
  have HQs := Lib.hid (StQ.all H.out.bk HM.out hIP HS.out HQ.out)
  have hpll : pl.length ≤ 220 := by have := plan_len hIP; have := HLl.out; omega
  have HB3 := Lib.hid (HB2.out.trans (hb3.mono HB2.out.size))
  have HBW3 := Lib.hid (H.out.be.trans (HB3.out.mono H.out.be.size))
  have hee : entsE 1 2 3 (errL L) (ansL L) pl = 0 := entsE_ok 1 2 3 (errL L) (ansL L) (fun j x hx => (plan_cg H.out.bk HM.out hIP x (List.mem_of_getElem? hx)).ch H.out.bk.wl)
  have hgt := lent_getter (HE.out.after HB3.out) (by have := HEl.out; omega)
  rw [HEL.out] at hgt
  have hnw : ∀ x ∈ pl, -9223372036854775808 ≤ x.n ∧ x.n ≤ 9223372036854775807 := fun x hx => by
    by_cases h0 : x.n = 0
    · omega
    · have := ((plan_cg H.out.bk HM.out hIP x hx).b h0).bd
      dsimp only at this
      omega
  have hen := entries_ok 1 2 3 36 (.pointer (some ⟨p, 0, none⟩)) (errL L) (ansL L) a3 c3 pl w3 (HR.out.after HBW3.out) hgt hsl3.g.recs hsl3.g.sh (by omega) hnw
  have HEn := Lib.hid hen
  have HEE := Lib.hid hee
  clear hen hgt hsl3 hip hpe hIP hb3 hnw hee HPk
  go_wp2_with fail
  with_reducible refine HEn.out.mono ?_
  rintro e w4 ⟨hb4, ⟨_, a4, c4, X, rfl, hXp, hsl4, hok4⟩ | ⟨hne, _⟩⟩
  rotate_left 1
  · exact absurd HEE.out hne
  have HB4 := Lib.hid (HB3.out.trans (hb4.mono HB3.out.size))
  have HBW4 := Lib.hid (H.out.be.trans (HB4.out.mono H.out.be.size))
  have hXl : X.length ≤ 440 := by
    have h1 := congrArg List.length hXp
    rw [List.length_map] at h1
    have := entsL_len 1 2 3 (ansL L) pl
    omega
  have hens : EnsAt w4 a4 X := ⟨hsl4.recs, fun i hi => hok4 _ (by unfold En.at; rw [List.getD_eq_getElem?_getD, List.getElem?_eq_getElem hi]; exact List.getElem_mem hi)⟩
  have hrw : ∀ x ∈ X, (Lit.int .i64 x.s.ref).wf = true := fun x hx => by
    have := ref_wf HQs.out.g.wl (by rw [List.length_append]; unfold stM; rw [List.length_map, ← hXp, List.length_map]; omega) x.p (by rw [← hXp]; exact List.mem_map.2 ⟨x, hx, rfl⟩)
    exact this
  have hpo := lpost_ok p bm a cap E b s 400 0 0 seq a4 c4 X w4 (HR.out.after HBW4.out) (HE.out.after HB4.out) (by rw [HEL.out]; exact H.out.bk.wl) (by have := HEl.out; omega) (H.out.per.after HB4.out) (by omega) (by omega) hens (by omega) hrw
  rw [show decide ((0 : Int) ≤ 0 ∧ 0 ≤ lastP 400) = true from by decide +kernel, show decide ((0 : Int) < 0) = false from by decide] at hpo
  have HPo := Lib.hid hpo
  have HXp := Lib.hid hXp
  clear hpo hrw hens hsl4 hok4 hXp hb4 HEn
  go_wp2_with fail
  with_reducible refine HPo.out.mono ?_
  rintro e w5 ⟨bm', a', cap', E', rfl, hL', hE', hT⟩
  rw [HEL.out, HXp.out] at hE' ⊢
  obtain ⟨hp0, hpl'⟩ := post_of HS.out HQ.out HQs.out.g.ok
  rw [hp0, if_pos rfl]
  rw [hpl'] at hE'
  have hW4 := HBW4.out
  have hb5 : Below W.heap.size W w5 := hW4.trans (hT.below hW4.size (fun q hq => by rw [List.mem_singleton.1 hq]; exact H.out.hp))
  have HF : Hid (TurnEnd W p b s L g seq V (.returned (.bool true)) w5) := ⟨rfl, pl, HIP.out, HQs.out, ⟨⟨bm', a', cap', E', hL', hE'⟩, (H.out.per.after HB4.out).turnB hT (by simpa using H.out.hb) (by simpa using H.out.hs), H.out.bk.turn HM.out HO.out HIP.out HQs.out, hb5, H.out.hp, H.out.hb, H.out.hs⟩⟩
  clear hL' hE' hT hp0 hpl' hW4 hb5
  go_wp2_with fail
  go_ret
  exact HF.out

end Go.Proofs.YtmjgcenhgpkhiaaDoor
