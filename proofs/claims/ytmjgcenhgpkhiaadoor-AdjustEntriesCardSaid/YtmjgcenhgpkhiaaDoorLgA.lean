/- The ledger, plainly: what an entry that is put is told, which entries there are, which one reverses one. And where it lies in memory. -/
import Derived.Test.YtmjgcenhgpkhiaaDoorEntI
import Derived.Test.YtmjgcenhgpkhiaaDoorMapW
import Derived.Test.YtmjgcenhgpkhiaaDoorApp
import Derived.Test.YtmjgcenhgpkhiaaDoorTurn
import Derived.Deep.RegionHeld3
import Derived.Deep.DrawnRows
import Derived.Deep.QuietTactic
import Derived.BigGuardPart
import Derived.BigQuiet
namespace Go.Proofs.YtmjgcenhgpkhiaaDoor
open Go.RowKit Go.Sort Go.Shelf
set_option linter.unusedVariables false
set_option linter.unusedSimpArgs false

instance : Inhabited En := ⟨⟨zero6, none, 0, []⟩⟩
/-- An entry, plainly. -/
structure EnP where
  s : Six
  ls : List Ln
def En.p (e : En) : EnP := ⟨e.s, e.ls⟩
/-- The entry that reverses one. -/
def revI (L : List EnP) (no : Int) : Option Nat := L.findIdx? fun e => decide (e.s.ref = no ∧ 0 ≤ no)
def mirB (a b : EnP) : Bool := decide (a.s.tag = b.s.tag) && decide (a.ls.map Ln.neg = b.ls)
/-- What is wrong with an entry that is to be put at the end. -/
def wrongE (L : List EnP) (x : EnP) : Int :=
  if checkE x.s x.ls ≠ 0 then checkE x.s x.ls else if x.s.ref = -1 then 0 else
  match L[x.s.ref.toNat]? with
  | none => 16
  | some old => if (revI L x.s.ref).isSome then 17 else if old.s.ref ≠ -1 then 24 else if mirB old x then 0 else 20
def stamp (per seq : Int) (x : EnP) : EnP := ⟨⟨x.s.con, x.s.day, x.s.cur, seq, per, x.s.ref⟩, x.ls⟩
def seqOf (L : List EnP) : Int := match L.getLast? with
  | none => 0
  | some e => e.s.seq
/-- Entries put one behind the other: what is wrong with one of them, and which ones there are then. -/
def postK (per seq : Int) : List EnP → List EnP → Int × List EnP
  | L, [] => (0, L)
  | L, x :: xs => if wrongE L x = 0 then postK per seq (L ++ [stamp per seq x]) xs else (wrongE L x, L)
/-- A call of Post: what it answers, and which entries there are then. -/
def postE (there locked : Bool) (per seq : Int) (L xs : List EnP) : Int :=
  if there = false then 10 else if locked = true then 19 else if seq < 0 ∨ seq < seqOf L then 24 else (postK per seq L xs).1
def postL (there locked : Bool) (per seq : Int) (L xs : List EnP) : List EnP :=
  if postE there locked per seq L xs = 0 then L ++ xs.map (stamp per seq) else L

theorem revI_some {L : List EnP} {no : Int} {i : Nat} (h : revI L no = some i) : ∃ e, L[i]? = some e ∧ e.s.ref = no ∧ 0 ≤ no := by
  unfold revI at h
  obtain ⟨hi, h1, _⟩ := List.findIdx?_eq_some_iff_getElem.1 h
  exact ⟨L[i], List.getElem?_eq_getElem hi, by simpa using h1⟩
theorem revI_none {L : List EnP} {no : Int} (h : revI L no = none) : ∀ e ∈ L, ¬ (e.s.ref = no ∧ 0 ≤ no) := fun e he => by
  unfold revI at h
  have := List.findIdx?_eq_none_iff.1 h e he
  simpa using this
theorem revI_snoc (L : List EnP) (x : EnP) (no : Int) : revI (L ++ [x]) no = match revI L no with
    | some i => some i
    | none => if x.s.ref = no ∧ 0 ≤ no then some L.length else none := by
  unfold revI
  rw [List.findIdx?_append]
  cases h : L.findIdx? fun e => decide (e.s.ref = no ∧ 0 ≤ no) with
  | some i => rfl
  | none =>
    simp only [List.findIdx?_cons, List.findIdx?_nil, Option.map_none]
    by_cases e : x.s.ref = no ∧ 0 ≤ no
    · simp [e]
    · rw [if_neg e]
      simp only [decide_eq_false e]
      rfl
theorem stamp_ref (per seq : Int) (x : EnP) : (stamp per seq x).s.ref = x.s.ref := rfl
theorem stamp_ls (per seq : Int) (x : EnP) : (stamp per seq x).ls = x.ls := rfl
theorem postK_at {per seq : Int} : ∀ (xs L : List EnP) (j : Nat), j ≤ xs.length → (∀ i, i < j → ∀ x, xs[i]? = some x → wrongE (L ++ (xs.take i).map (stamp per seq)) x = 0) → postK per seq L xs = postK per seq (L ++ (xs.take j).map (stamp per seq)) (xs.drop j)
  | xs, L, 0, _, _ => by simp
  | [], L, j + 1, h, _ => by simp at h
  | x :: xs, L, j + 1, h, hw => by
    have h0 := hw 0 (by omega) x rfl
    simp only [List.take_zero, List.map_nil, List.append_nil] at h0
    have ih := postK_at (per := per) (seq := seq) xs (L ++ [stamp per seq x]) j (by simpa using h) (fun i hi y hy => by
      have := hw (i + 1) (by omega) y (by simpa using hy)
      simpa using this)
    rw [postK, if_pos h0, ih]
    simp
theorem postK_ok {per seq : Int} {xs L : List EnP} (h : ∀ i, ∀ x, xs[i]? = some x → wrongE (L ++ (xs.take i).map (stamp per seq)) x = 0) : postK per seq L xs = (0, L ++ xs.map (stamp per seq)) := by
  rw [postK_at xs L xs.length (Nat.le_refl _) (fun i _ x hx => h i x hx)]
  simp [postK]
theorem postK_bad {per seq : Int} {xs L : List EnP} {j : Nat} {x : EnP} (hx : xs[j]? = some x) (h : ∀ i, i < j → ∀ x, xs[i]? = some x → wrongE (L ++ (xs.take i).map (stamp per seq)) x = 0) (hb : wrongE (L ++ (xs.take j).map (stamp per seq)) x ≠ 0) :
    (postK per seq L xs).1 = wrongE (L ++ (xs.take j).map (stamp per seq)) x := by
  obtain ⟨hj, he⟩ := List.getElem?_eq_some_iff.1 hx
  rw [postK_at xs L j (by omega) h, List.drop_eq_getElem_cons hj, he, postK, if_neg hb]
theorem postK_fst {per seq : Int} : ∀ (xs L : List EnP), (postK per seq L xs).1 = 0 → postK per seq L xs = (0, L ++ xs.map (stamp per seq)) ∧ ∀ i x, xs[i]? = some x → wrongE (L ++ (xs.take i).map (stamp per seq)) x = 0
  | [], L, _ => by simp [postK]
  | x :: xs, L, h => by
    rw [postK] at h ⊢
    by_cases h0 : wrongE L x = 0
    · rw [if_pos h0] at h ⊢
      obtain ⟨h1, h2⟩ := postK_fst xs _ h
      refine ⟨by rw [h1]; simp, fun i y hy => ?_⟩
      cases i with
      | zero =>
        simp only [List.getElem?_cons_zero, Option.some.injEq] at hy
        subst hy
        simpa using h0
      | succ i =>
        have := h2 i y (by simpa using hy)
        simpa using this
    · rw [if_neg h0] at h
      exact absurd h h0

theorem wrongE_check {L : List EnP} {x : EnP} (h : wrongE L x = 0) : checkE x.s x.ls = 0 := by
  unfold wrongE at h
  split at h
  · rename_i h1; exact absurd h h1
  · rename_i h1; exact Decidable.of_not_not h1
theorem wrongE_ref {L : List EnP} {x : EnP} (h : wrongE L x = 0) (hr : x.s.ref ≠ -1) : ∃ old, L[x.s.ref.toNat]? = some old ∧ revI L x.s.ref = none ∧ old.s.ref = -1 ∧ mirB old x = true := by
  have hc := wrongE_check h
  unfold wrongE at h
  rw [if_neg (by simpa using hc), if_neg hr] at h
  cases ho : L[x.s.ref.toNat]? with
  | none => rw [ho] at h; simp at h
  | some old =>
    rw [ho] at h
    dsimp only at h
    split at h
    · cases h
    · rename_i h1
      split at h
      · cases h
      · rename_i h2
        split at h
        · rename_i h3
          exact ⟨old, rfl, by simpa using h1, Decidable.of_not_not h2, h3⟩
        · cases h
theorem check_parts {s : Six} {ls : List Ln} (h : checkE s ls = 0) : rangesB s ls = true ∧ linesB s ls = true ∧ someB ls = true ∧ fitsB ls = true ∧ evenB ls = true := by
  unfold checkE at h
  split at h
  · rename_i h1
    split at h
    · rename_i h2
      split at h
      · rename_i h3
        split at h
        · rename_i h4
          split at h
          · rename_i h5; exact ⟨h1, h2, h3, h4, h5⟩
          · cases h
        · cases h
      · cases h
    · cases h
  · cases h
theorem check_nums {s : Six} {ls : List Ln} (h : checkE s ls = 0) : 0 ≤ s.seq ∧ 0 ≤ s.per ∧ -1 ≤ s.ref ∧ tagOk s.con s.day s.cur = true ∧ ls.length ≤ 8 := by
  obtain ⟨h1, h2, _⟩ := check_parts h
  unfold rangesB at h1
  unfold linesB at h2
  simp only [Bool.and_eq_true, decide_eq_true_eq] at h1 h2
  exact ⟨h1.1.1.2, h1.1.2, h1.2, h1.1.1.1.1, h2.1.2⟩
theorem check_stamp {per seq : Int} {x : EnP} (h : checkE x.s x.ls = 0) (hp : 0 ≤ per) (hs : 0 ≤ seq) : checkE (stamp per seq x).s (stamp per seq x).ls = 0 := by
  obtain ⟨h1, h2, h3, h4, h5⟩ := check_parts h
  have h1' : rangesB (stamp per seq x).s (stamp per seq x).ls = true := by
    unfold rangesB at h1 ⊢
    simp only [Bool.and_eq_true, decide_eq_true_eq] at h1 ⊢
    exact ⟨⟨⟨h1.1.1.1, hs⟩, hp⟩, h1.2⟩
  have h2' : linesB (stamp per seq x).s (stamp per seq x).ls = true := h2
  unfold checkE
  rw [if_pos h1', if_pos h2', if_pos (show someB (stamp per seq x).ls = true from h3), if_pos (show fitsB (stamp per seq x).ls = true from h4), if_pos (show evenB (stamp per seq x).ls = true from h5)]

/-- What holds of all ledgers. -/
structure WL (L : List EnP) : Prop where
  ck : ∀ e ∈ L, checkE e.s e.ls = 0
  ref : ∀ (k : Nat) (e : EnP), L[k]? = some e → e.s.ref ≠ -1 → ∃ old : EnP, L[e.s.ref.toNat]? = some old ∧ e.s.ref.toNat < k ∧ old.s.ref = -1 ∧ mirB old e = true
  one : ∀ (i j : Nat) (e f : EnP), L[i]? = some e → L[j]? = some f → e.s.ref = f.s.ref → e.s.ref ≠ -1 → i = j
  seq : L.Pairwise fun a b => a.s.seq ≤ b.s.seq
theorem WL.nil : WL [] := ⟨fun e he => by simp at he, fun k e h => by simp at h, fun i j e f h => by simp at h, List.Pairwise.nil⟩
theorem seqOf_snoc (L : List EnP) (x : EnP) : seqOf (L ++ [x]) = x.s.seq := by simp [seqOf]
theorem seqOf_le {L : List EnP} (h : L.Pairwise fun a b => a.s.seq ≤ b.s.seq) : ∀ e ∈ L, e.s.seq ≤ seqOf L := fun e he => by
  unfold seqOf
  cases hl : L.getLast? with
  | none => rw [List.getLast?_eq_none_iff] at hl; subst hl; simp at he
  | some z =>
    obtain ⟨A, rfl⟩ := List.getLast?_eq_some_iff.1 hl
    rcases List.mem_append.1 he with h1 | h1
    · exact (List.pairwise_append.1 h).2.2 e h1 z (by simp)
    · rw [List.mem_singleton.1 h1]; exact Int.le_refl _
theorem WL.nonneg {L : List EnP} (h : WL L) : ∀ e ∈ L, -1 ≤ e.s.ref := fun e he => (check_nums (h.ck e he)).2.2.1
theorem WL.refs {L : List EnP} (h : WL L) {k : Nat} {e : EnP} (he : L[k]? = some e) (hr : e.s.ref ≠ -1) : 0 ≤ e.s.ref ∧ e.s.ref < k := by
  obtain ⟨old, _, h2, _⟩ := h.ref k e he hr
  have := h.nonneg e (List.mem_of_getElem? he)
  omega
theorem WL.rev {L : List EnP} (h : WL L) {i : Nat} {e : EnP} (he : L[i]? = some e) (hr : e.s.ref ≠ -1) : revI L e.s.ref = some i := by
  cases hv : revI L e.s.ref with
  | none => exact absurd ⟨rfl, (h.refs he hr).1⟩ (revI_none hv e (List.mem_of_getElem? he))
  | some j =>
    obtain ⟨f, hf, e1, _⟩ := revI_some hv
    rw [h.one j i f e hf he e1 (by rw [e1]; exact hr)]
theorem WL.snoc {L : List EnP} (h : WL L) {x : EnP} {per seq : Int} (hw : wrongE L x = 0) (hp : 0 ≤ per) (hs : 0 ≤ seq) (hq : seqOf L ≤ seq) : WL (L ++ [stamp per seq x]) := by
  have hc := wrongE_check hw
  have hat : ∀ (k : Nat) (e : EnP), (L ++ [stamp per seq x])[k]? = some e → (L[k]? = some e ∧ k < L.length) ∨ (k = L.length ∧ e = stamp per seq x) := fun k e hk => by
    by_cases hlt : k < L.length
    · rw [List.getElem?_append_left hlt] at hk; exact .inl ⟨hk, hlt⟩
    · rw [List.getElem?_append_right (by omega)] at hk
      by_cases e0 : k = L.length
      · subst e0; simp at hk; exact .inr ⟨rfl, hk.symm⟩
      · rw [List.getElem?_eq_none (by simp; omega)] at hk; cases hk
  have hin : ∀ (k : Nat) (e : EnP), L[k]? = some e → (L ++ [stamp per seq x])[k]? = some e := fun k e hk => by
    rw [List.getElem?_append_left (List.getElem?_eq_some_iff.1 hk).1]; exact hk
  refine ⟨fun e he => ?_, fun k e hk hr => ?_, fun i j e f hi hj hef hr => ?_, ?_⟩
  · rcases List.mem_append.1 he with he | he
    · exact h.ck e he
    · rw [List.mem_singleton.1 he]; exact check_stamp hc hp hs
  · rcases hat k e hk with ⟨hk', hlt⟩ | ⟨rfl, rfl⟩
    · obtain ⟨old, h1, h2, h3, h4⟩ := h.ref k e hk' hr
      exact ⟨old, hin _ _ h1, h2, h3, h4⟩
    · obtain ⟨old, h1, _, h3, h4⟩ := wrongE_ref hw hr
      exact ⟨old, hin _ _ h1, (List.getElem?_eq_some_iff.1 h1).1, h3, h4⟩
  · rcases hat i e hi with ⟨hi', h1⟩ | ⟨rfl, rfl⟩
    · rcases hat j f hj with ⟨hj', h2⟩ | ⟨rfl, rfl⟩
      · exact h.one i j e f hi' hj' hef hr
      · obtain ⟨old, _, h5, _⟩ := wrongE_ref (x := x) hw (by rw [← stamp_ref per seq x, ← hef]; exact hr)
        have := h.refs hi' hr
        exact absurd ⟨hef, by rw [← stamp_ref per seq x, ← hef]; exact this.1⟩ (revI_none h5 e (List.mem_of_getElem? hi'))
    · rcases hat j f hj with ⟨hj', h2⟩ | ⟨rfl, rfl⟩
      · obtain ⟨old, _, h5, _⟩ := wrongE_ref (x := x) hw hr
        have := h.refs hj' (by rw [← hef]; exact hr)
        exact absurd ⟨hef.symm, by rw [← stamp_ref per seq x, hef]; exact this.1⟩ (revI_none h5 f (List.mem_of_getElem? hj'))
      · rfl
  · refine List.pairwise_append.2 ⟨h.seq, by simp, fun a ha b hb => ?_⟩
    rw [List.mem_singleton.1 hb]
    exact Int.le_trans (seqOf_le h.seq a ha) hq
theorem seqOf_pre {per seq : Int} {L xs : List EnP} (hq : seqOf L ≤ seq) : seqOf (L ++ xs.map (stamp per seq)) ≤ seq := by
  rcases List.eq_nil_or_concat xs with rfl | ⟨A, x, rfl⟩
  · simpa using hq
  · simp only [List.concat_eq_append, List.map_append, List.map_cons, List.map_nil]
    rw [← List.append_assoc, seqOf_snoc]
    exact Int.le_refl _
theorem WL.puts {L : List EnP} (h : WL L) {per seq : Int} (hp : 0 ≤ per) (hs : 0 ≤ seq) (hq : seqOf L ≤ seq) : ∀ (xs : List EnP), (∀ i x, xs[i]? = some x → wrongE (L ++ (xs.take i).map (stamp per seq)) x = 0) → WL (L ++ xs.map (stamp per seq)) := fun xs hw => by
  have key : ∀ j, j ≤ xs.length → WL (L ++ (xs.take j).map (stamp per seq)) := fun j => by
    induction j with
    | zero => intro _; simpa using h
    | succ j ih =>
      intro hj
      have := (ih (by omega)).snoc (hw j xs[j] (List.getElem?_eq_getElem (by omega))) hp hs (seqOf_pre hq)
      rw [List.take_succ_eq_append_getElem (by omega), List.map_append, ← List.append_assoc]
      exact this
  have := key xs.length (Nat.le_refl _)
  rwa [List.take_length] at this

/-- The map of the entries that reverse one. -/
def byM (L : List EnP) : List (Value × Value) := (L.zipIdx.filter fun p => decide (p.1.s.ref ≠ -1)).map fun p => (Value.int .i64 p.1.s.ref, Value.int .i64 (p.2 : Int))
theorem byM_snoc (L : List EnP) (x : EnP) : byM (L ++ [x]) = byM L ++ if x.s.ref = -1 then [] else [(Value.int .i64 x.s.ref, Value.int .i64 (L.length : Int))] := by
  unfold byM
  rw [List.zipIdx_append, List.filter_append, List.map_append]
  congr 1
  by_cases h : x.s.ref = -1 <;> simp [h]
theorem byM_mem {L : List EnP} {k v : Value} : (k, v) ∈ byM L ↔ ∃ (i : Nat) (e : EnP), L[i]? = some e ∧ e.s.ref ≠ -1 ∧ k = .int .i64 e.s.ref ∧ v = .int .i64 (i : Int) := by
  unfold byM
  rw [List.mem_map]
  constructor
  · rintro ⟨⟨e, i⟩, hp, h⟩
    obtain ⟨h1, h2⟩ := List.mem_filter.1 hp
    simp only [Prod.mk.injEq] at h
    exact ⟨i, e, by rw [← List.mk_mem_zipIdx_iff_getElem?]; exact h1, by simpa using h2, h.1.symm, h.2.symm⟩
  · rintro ⟨i, e, h1, h2, rfl, rfl⟩
    exact ⟨(e, i), List.mem_filter.2 ⟨by rw [List.mk_mem_zipIdx_iff_getElem?]; exact h1, by simpa using h2⟩, rfl⟩
theorem byM_cases {L : List EnP} (h : WL L) (no : Int) : (∃ i : Nat, revI L no = some i ∧ i < L.length ∧ (Value.int .i64 no, Value.int .i64 (i : Int)) ∈ byM L) ∨ (revI L no = none ∧ ∀ v, (Value.int .i64 no, v) ∉ byM L) := by
  cases hv : revI L no with
  | some i =>
    obtain ⟨e, h1, h2, h3⟩ := revI_some hv
    exact .inl ⟨i, rfl, (List.getElem?_eq_some_iff.1 h1).1, byM_mem.2 ⟨i, e, h1, by omega, by rw [h2], rfl⟩⟩
  | none =>
    refine .inr ⟨rfl, fun v hm => ?_⟩
    obtain ⟨i, e, h1, h2, h3, _⟩ := byM_mem.1 hm
    simp only [Value.int.injEq, true_and] at h3
    exact revI_none hv e (List.mem_of_getElem? h1) ⟨h3.symm, by rw [h3]; exact (h.refs h1 h2).1⟩

def OkN (v : Value) : Prop := ∃ n : Int, v = .int .i64 n ∧ (Lit.int .i64 n).wf = true
theorem keyN : KeyLike Tryd.prog 3 OkN := KeyLike.ints Tryd.underlying3

/-- The ledger in memory. -/
structure LgAt (w : World) (p bm : Nat) (a : Option Addr) (cap : Nat) (E : List En) : Prop where
  blk : Blk w p #[.slice a E.length cap, .map (some bm)] 87
  sl : SlAt w 7 En.cs a cap E
  ok : ∀ e ∈ E, EnOk w e
  map : MapAt OkN w bm (byM (E.map En.p))
theorem LgAt.after {w w' : World} {p bm : Nat} {a : Option Addr} {cap : Nat} {E : List En} (h : LgAt w p bm a cap E) (hb : Below w.heap.size w w') : LgAt w' p bm a cap E :=
  ⟨h.blk.after hb, h.sl.after hb, fun e he => (h.ok e he).after hb, h.map.after hb⟩

/-- A block that holds two cells, neither of which is a number: a ledger's own. -/
def LBox (w : World) (q : Nat) : Prop := ∃ (a : Option Addr) (n c m : Nat) (T : TypeId), w.heap[q]? = some (.cells #[.slice a n c, .map (some m)] T (0, 0))
theorem LgAt.box {w : World} {p bm : Nat} {a : Option Addr} {cap : Nat} {E : List En} (h : LgAt w p bm a cap E) : LBox w p := ⟨_, _, _, _, _, h.blk⟩
theorem LBox.no_int {w : World} {q i : Nat} {n : Int} (h : LBox w q) : w.cell? ⟨q, i, none⟩ ≠ some (.int .i64 n) := fun e => by
  obtain ⟨a, k, c, m, T, hb⟩ := h
  simp only [World.cell?, hb] at e
  rcases i with _ | _ | i
  · simp at e
  · simp at e
  · simp at e
theorem LnAt.turn {w w' : World} {bs : List Nat} {a : Option Addr} {ls : List Ln} (h : LnAt w a ls) (t : Turn bs w w') (hb : ∀ q ∈ bs, LBox w q) : LnAt w' a ls := fun hl => by
  obtain ⟨b, o, e, hc⟩ := h hl
  have h0 := (hc 0 hl).1
  have hlt : b < w.heap.size := by
    rcases Nat.lt_or_ge b w.heap.size with h | h
    · exact h
    · simp [World.cell?, Array.getElem?_eq_none h] at h0
  have hn : b ∉ bs := fun hm => (hb b hm).no_int h0
  have hk := t.block b hlt hn
  exact ⟨b, o, e, fun i hi => ⟨(World.cell?_of_block hk).trans (hc i hi).1, (World.cell?_of_block hk).trans (hc i hi).2.1, (World.cell?_of_block hk).trans (hc i hi).2.2⟩⟩
theorem EnOk.turn {w w' : World} {bs : List Nat} {e : En} (h : EnOk w e) (t : Turn bs w w') (hb : ∀ q ∈ bs, LBox w q) : EnOk w' e := ⟨h.ln.turn t hb, h.wf, h.few, h.nil⟩
theorem SlAt.turnE {w w' : World} {bs : List Nat} {a : Option Addr} {cap : Nat} {E : List En} (h : SlAt w 7 En.cs a cap E) (t : Turn bs w w') (hb : ∀ q ∈ bs, LBox w q) : SlAt w' 7 En.cs a cap E := by
  refine ⟨fun hl => ?_, h.le, h.max, h.sh.imp id fun ⟨b, o, e, hlt⟩ => ⟨b, o, e, by have := t.size; omega⟩⟩
  obtain ⟨b, o, e, hc⟩ := h.recs hl
  have h0 : w.cell? ⟨b, o + 0 * 7 + 0, none⟩ = some (.int .i64 (E.getD 0 default).s.con) := hc 0 hl 0 _ rfl
  have hlt : b < w.heap.size := by
    rcases Nat.lt_or_ge b w.heap.size with h | h
    · exact h
    · simp [World.cell?, Array.getElem?_eq_none h] at h0
  have hn : b ∉ bs := fun hm => (hb b hm).no_int h0
  exact ⟨b, o, e, fun i hi j v hv => (World.cell?_of_block (a := ⟨b, o + i * 7 + j, none⟩) (t.block b hlt hn)).trans (hc i hi j v hv)⟩
theorem MapAt.turnL {ok : Value → Prop} {w w' : World} {bs : List Nat} {B : Nat} {m : List (Value × Value)} (h : MapAt ok w B m) (t : Turn bs w w') (hb : ∀ q ∈ bs, LBox w q) : MapAt ok w' B m := by
  refine h.block (t.block B h.lt fun hm => ?_)
  obtain ⟨a, n, c, k, T, hq⟩ := hb B hm
  obtain ⟨es, cl, he, _⟩ := h
  rw [hq] at he
  cases he
/-- Another ledger than those that are turned stays what it is. -/
theorem LgAt.turn {w w' : World} {bs : List Nat} {p bm : Nat} {a : Option Addr} {cap : Nat} {E : List En} (h : LgAt w p bm a cap E) (t : Turn bs w w') (hb : ∀ q ∈ bs, LBox w q) (hp : p ∉ bs) : LgAt w' p bm a cap E :=
  ⟨t.blk h.blk hp, h.sl.turnE t hb, fun e he => (h.ok e he).turn t hb, h.map.turnL t hb⟩

end Go.Proofs.YtmjgcenhgpkhiaaDoor
