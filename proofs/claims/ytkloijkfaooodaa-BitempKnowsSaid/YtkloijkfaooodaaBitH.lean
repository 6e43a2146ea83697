/- Package bitemp: what a put leaves, plainly. -/
import Derived.Test.YtkloijkfaooodaaBitF
import Derived.Test.YtkloijkfaooodaaHeld
namespace Go.Proofs.Ytkloijkfaooodaa
open Go.RowKit Go.Shelf
set_option linter.unusedVariables false
set_option linter.unusedSimpArgs false

section
variable {P : Program} {ops : Array Oper} {Q : Exit → Act → World → Prop} {md : Region.Mode} {S : World → Prop} {L : Nat}
/-- One step, whatever is to follow behind a variable. -/
def OneF (P : Program) (md : Region.Mode) (ops : Array Oper) (Q : Exit → Act → World → Prop) (S : World → Prop) (L : Nat) (fuel : Nat) (listed : Array Bool) (i : Nat) (o : Oper) (a : Act) (w : World) : Prop :=
  ∀ K' : Act → World → Prop, Shut (∀ a w, (i = L ∨ S w) → wpAnyF P md ops Q S L fuel (listed.setIfInBounds i true) a w → K' a w) → if Region.wanted o (yielded ops a.tmps) = true then Oper.wp P o a w K' Q else K' (a.put o.dst undef) w
theorem OneF.wpOp {fuel i : Nat} {listed : Array Bool} {o : Oper} {a : Act} {w : World} (hi : ops[i]? = some o) (h : OneF P md ops Q S L fuel listed i o a w) :
    wpOp P ops Q i (fun a' w' => (i = L ∨ S w') ∧ wpAnyF P md ops Q S L fuel (listed.setIfInBounds i true) a' w') a w :=
  wpOp_step hi (fun K' hK => h K' (fun a w hS hW => hK a w ⟨hS, hW⟩))
theorem wpAnyF_two {l r r' : List Oper} {i j : Nat} {o o' : Oper} {fuel : Nat} {listed : Array Bool} {a : Act} {w : World} (hi : l.drop i = o :: r) (hj : l.drop j = o' :: r') (hr : Region.ready md l.toArray listed = [i, j])
    (h : OneF P md l.toArray Q S L fuel listed i o a w) (h' : OneF P md l.toArray Q S L fuel listed j o' a w) : wpAnyF P md l.toArray Q S L (fuel + 1) listed a w :=
  ⟨fun h0 => (by rw [hr] at h0; cases h0), fun k hk => by
    rw [hr] at hk
    simp only [List.mem_cons, List.not_mem_nil, or_false] at hk
    rcases hk with rfl | rfl
    · exact h.wpOp (of_drop hi)
    · exact h'.wpOp (of_drop hj)⟩
/-- Operation L waits for number i. -/
def lastI (md : Region.Mode) (ops : Array Oper) (L i : Nat) : Bool := i == L || ((ops[L]?).map (·.after.any fun e => Region.binds md e && e.on == i)).getD false
theorem lastI_ne {i j : Nat} {listed : Array Bool} (h : lastI md ops L i = true) (hi : i < ops.size) (hl : listed.size = ops.size) (hun : listed.getD i true = false) (hj : j ∈ Region.ready md ops listed) (hij : i ≠ j) : j ≠ L := by
  rintro rfl
  obtain ⟨_, oj, hoj, hall⟩ := mem_ready.1 hj
  unfold lastI at h
  simp only [Bool.or_eq_true, beq_iff_eq, hij, false_or, hoj, Option.map_some, Option.getD_some, Array.any_eq_true, Bool.and_eq_true] at h
  obtain ⟨k, hk, hb, he⟩ := h
  have h2 := hall oj.after[k] (Array.getElem_mem hk) hb
  rw [he] at h2
  rw [Array.getD_eq_getD_getElem?, Array.getElem?_eq_getElem (by omega)] at hun h2
  simp at hun h2
  rw [hun] at h2
  cases h2
theorem wpAnyF_firstI {i : Nat} (hL : lastI md ops L i = true) {oi : Oper} {v : Value} (hi : ops[i]? = some oi) (hsel : ∀ (j : Nat) (o : Oper) cs b, ops[j]? = some o → o.op ≠ .select cs b)
    (hQ : ∀ c a w, Q (.panic c) (a.put oi.dst v) w → Q (.panic c) a w) :
    ∀ (fuel : Nat) (listed : Array Bool) (a : Act) (w : World), listed.size = ops.size →
      (∀ j oj, ops[j]? = some oj → j ≠ i → listed.getD j true = false → (∀ e ∈ oj.after, Region.binds md e = true → e.on ≠ i) → oi.apart ops oj = true) →
      i ∈ Region.ready md ops listed → YieldsIf P ops S oi v a → S w →
      wpAnyF P md ops Q S L fuel (listed.setIfInBounds i true) (a.put oi.dst v) w → wpAnyF P md ops Q S L (fuel + 1) listed a w := by
  intro fuel
  induction fuel with
  | zero =>
    intro listed a w hsz _ hr hy hS H
    refine ⟨fun h => (by rw [h] at hr; cases hr), fun j hj => ?_⟩
    by_cases hji : j = i
    · subst hji; exact hy.wpOp hi hS ⟨.inr hS, H⟩
    · have := ready_mono hj hji
      rw [H.1] at this
      cases this
  | succ fuel ih =>
    intro listed a w hsz hfree hr hy hS H
    refine ⟨fun h => (by rw [h] at hr; cases hr), fun j hj => ?_⟩
    by_cases hji : j = i
    · subst hji; exact hy.wpOp hi hS ⟨.inr hS, H⟩
    · have h1 := H.2 j (ready_mono hj hji)
      obtain ⟨hjun, oj, hoj, hall⟩ := mem_ready.1 hj
      have hnot : ∀ e ∈ oj.after, Region.binds md e = true → e.on ≠ i := fun e he hb heq => by
        have h1 := hall e he hb
        have h0 := (mem_ready.1 hr).1
        rw [heq] at h1
        rcases Nat.lt_or_ge i listed.size with h' | h'
        · simp [h'] at h0 h1; rw [h0] at h1; cases h1
        · simp [Array.getElem?_eq_none h'] at h1
      have h2 := wpOp_putIf hoj (hfree j oj hoj hji hjun hnot) (fun cs b => hsel i oi cs b hi) (fun cs b => hsel j oj cs b hoj) hQ hy h1
      have hfree' : ∀ k ok, ops[k]? = some ok → k ≠ i → (listed.setIfInBounds j true).getD k true = false →
          (∀ e ∈ ok.after, Region.binds md e = true → e.on ≠ i) → oi.apart ops ok = true := fun k ok hk hki hun hno => by
        refine hfree k ok hk hki ?_ hno
        by_cases hjk : j = k
        · subst hjk; exact hjun
        · rw [getD_set_ne true hjk] at hun; exact hun
      have hjL : j ≠ L := lastI_ne hL (Array.getElem?_eq_some_iff.1 hi).1 hsz (mem_ready.1 hr).1 hj (Ne.symm hji)
      refine wpOp_mono (fun a' w' h3 => ?_) h2
      have hS' : S w' := h3.2.1.resolve_left hjL
      refine ⟨.inr hS', ih (listed.setIfInBounds j true) a' w' (by simpa using hsz) hfree' (ready_mono hr (Ne.symm hji)) h3.1 hS' ?_⟩
      rw [Array.setIfInBounds_comm _ _ hji]
      exact h3.2.2

theorem wpAnyF_takesI {l r : List Oper} {i : Nat} {oi : Oper} {v : Value} {fuel : Nat} {listed : Array Bool} {a : Act} {w : World} (hi : l.drop i = oi :: r)
    (hk : (lastI md l.toArray L i && decide (listed.size = l.toArray.size) && Region.noSelect l.toArray && Region.free md l.toArray listed i && (Region.ready md l.toArray listed).contains i) = true)
    (hQ : ∀ c a w, Q (.panic c) (a.put oi.dst v) w → Q (.panic c) a w) (hw : Region.wanted oi (yielded l.toArray a.tmps) = true) (hS : S w) (hy : ∀ w, S w → (execOp a.eval oi).run P w = .ok (.value v) w)
    (h : wpAnyF P md l.toArray Q S L fuel (listed.setIfInBounds i true) (a.put oi.dst v) w) : wpAnyF P md l.toArray Q S L (fuel + 1) listed a w := by
  simp only [Bool.and_eq_true, decide_eq_true_eq] at hk
  obtain ⟨⟨⟨⟨h1, h2⟩, h3⟩, h4⟩, h5⟩ := hk
  exact wpAnyF_firstI h1 (of_drop hi) (Region.noSelect_spec h3) hQ fuel listed a w h2 (Region.free_spec (of_drop hi) h4) (by simpa using h5) (Or.inl ⟨hw, hy⟩) hS h
end

/-- A place with one more. -/
theorem PlAt.put {w w' : World} {base bm : Nat} {V : List Vs} {E : List (PK × Value)} (h : PlAt w base bm V E) (v : Vs) {x : Value} (hm : MapAt OkPk w' bm ((pkV v.pl, x) :: lessKey (pkV v.pl) (E.map entP)))
    (ho : w'.ownsRow base 3 1 x ((idxP V v.pl).length + 1) (natC (idxP V v.pl) ++ [.int .i64 V.length])) (hk : ∀ e ∈ E, w'.ownsRow base 3 1 e.2 (idxP V e.1).length (natC (idxP V e.1))) : ∃ E', PlAt w' base bm (V ++ [v]) E' := by
  refine ⟨(v.pl, x) :: E.filter (fun e => decide (e.1 ≠ v.pl)), ?_, ?_, ?_⟩
  · have : (E.filter (fun e => decide (e.1 ≠ v.pl))).map entP = lessKey (pkV v.pl) (E.map entP) := by
      unfold lessKey
      rw [List.filter_map]
      congr 1
      apply List.filter_congr
      intro e _
      have : (e.1 = v.pl) ↔ (pkV e.1 = pkV v.pl) := ⟨fun h => by rw [h], pkV_inj⟩
      by_cases e1 : e.1 = v.pl
      · simp [Function.comp, entP, e1]
      · have e2 : ¬ pkV e.1 = pkV v.pl := fun h => e1 (this.2 h)
        simp [Function.comp, entP, e1, e2]
    rw [List.map_cons, this]
    exact hm
  · intro e he
    rcases List.mem_cons.1 he with rfl | he
    · have e1 : idxP (V ++ [v]) v.pl = idxP V v.pl ++ [V.length] := by rw [idxP_snoc, if_pos rfl]
      dsimp only
      rw [e1]
      refine ⟨by simp, ?_⟩
      rw [List.length_append]
      unfold natC at ho ⊢
      rw [List.map_append]
      exact ho
    · obtain ⟨h1, h2⟩ := List.mem_filter.1 he
      have hne : ¬ v.pl = e.1 := fun e1 => by simp [e1] at h2
      have e1 : idxP (V ++ [v]) e.1 = idxP V e.1 := by rw [idxP_snoc, if_neg hne]
      rw [e1]
      exact ⟨(h.own e h1).1, hk e h1⟩
  · intro q hq
    rw [idxP_snoc] at hq
    by_cases e : v.pl = q
    · subst e
      exact ⟨x, by simp⟩
    · rw [if_neg e] at hq
      obtain ⟨y, hy⟩ := h.all q hq
      exact ⟨y, List.mem_cons_of_mem _ (List.mem_filter.2 ⟨hy, by simpa using fun h => e h.symm⟩)⟩

/-- A store whose map is ahead of its list. -/
structure StMid (w : World) (base p bm : Nat) (sv : Value) (V : List Vs) (v : Vs) : Prop where
  blk : Blk w p #[sv, .map (some bm)] 83
  own : w.ownsRow base 26 7 sv V.length (cellsL encS V)
  map : ∃ E, PlAt w base bm (V ++ [v]) E
  hp : base ≤ p
  hm : base ≤ bm
theorem PlAt.notcells {w : World} {base bm : Nat} {V : List Vs} {E : List (PK × Value)} (h : PlAt w base bm V E) {cur : Array Value} {T : TypeId} {fr : Nat × Nat} : w.heap[bm]? ≠ some (.cells cur T fr) := by
  obtain ⟨es, c, h1, _⟩ := h.map
  rw [h1]
  simp
theorem mid_of {w wE w' : World} {base p bm : Nat} {sv : Value} {V : List Vs} {E : List (PK × Value)} (v : Vs) {x : Value} (h : StAt w base p bm sv V) (hE : PlAt w base bm V E) (hb : Below w.heap.size w wE)
    (ho : wE.ownsRow w.heap.size 3 1 x ((idxP V v.pl).length + 1) (natC (idxP V v.pl) ++ [.int .i64 V.length])) (hm : MapAt OkPk w' bm ((pkV v.pl, x) :: lessKey (pkV v.pl) (E.map entP))) (hg : wE.grownBy w' (some bm)) :
    StMid w' base p bm sv V v ∧ Turn [bm] w w' := by
  have ht : Turn [bm] w w' := (Turn.of_below hb).trans (Turn.of_grown hg (by simp))
  have hlt := h.lt
  have hx : w'.ownsRow w.heap.size 3 1 x ((idxP V v.pl).length + 1) (natC (idxP V v.pl) ++ [.int .i64 V.length]) := own_kept ho hg fun g hg' e => by
    have := (own_cells ho hg').1
    cases e
    omega
  refine ⟨⟨ht.blk h.blk (by simpa using h.ne), ht.own h.own fun g hg' hb' => ?_, hE.put v hm ?_ fun e he => ht.own (hE.own e he).2 fun g hg' hb' => ?_, h.hp, h.hm⟩, ht⟩
  · obtain rfl := List.mem_singleton.1 hb'
    obtain ⟨_, _, cur, hc⟩ := own_cells h.own hg'
    exact hE.notcells hc
  · refine ⟨hx.1, ?_⟩
    rcases hx.2 with h0 | ⟨g, cap, cur, h1, h2, h3⟩
    · exact Or.inl h0
    · exact Or.inr ⟨g, cap, cur, h1, by have := h.hm; omega, h3⟩
  · obtain rfl := List.mem_singleton.1 hb'
    obtain ⟨_, _, cur, hc⟩ := own_cells (hE.own e he).2 hg'
    exact hE.notcells hc
theorem StMid.put {w w1 wG : World} {base p bm : Nat} {sv : Value} {V : List Vs} {v : Vs} (h : StMid w base p bm sv V v) {g cap : Nat} (hb1 : Below w.heap.size w w1) (hg : w1.grownBy wG sv.ownBlock)
    (ho : wG.ownsRow base 26 7 (.slice (some ⟨g, 0, none⟩) (V.length + 1) cap) (V.length + 1) (cellsL encS V ++ encS v)) :
    StAt (wG.setCell ⟨p, 0, none⟩ (.slice (some ⟨g, 0, none⟩) (V.length + 1) cap)) base p bm (.slice (some ⟨g, 0, none⟩) (V.length + 1) cap) (V ++ [v]) ∧ Turn (p :: sv.ownBlock.toList) w (wG.setCell ⟨p, 0, none⟩ (.slice (some ⟨g, 0, none⟩) (V.length + 1) cap)) := by
  have t1 : Turn (p :: sv.ownBlock.toList) w wG := (Turn.of_below hb1).trans ⟨hg.os, hg.tape, hg.output, hg.size, fun k hk hn => hg.block k hk fun e => hn (by rw [← e]; simp)⟩
  have kG : Blk wG p #[sv, .map (some bm)] 83 := (h.blk.after hb1).grown hg (h.blk.own_ne h.own (by decide))
  have t2 : Turn (p :: sv.ownBlock.toList) w (wG.setCell ⟨p, 0, none⟩ (.slice (some ⟨g, 0, none⟩) (V.length + 1) cap)) := t1.trans (Turn.of_grown (grown_setCell wG p 0 _) (by simp))
  obtain ⟨E, hE⟩ := h.map
  refine ⟨⟨kG.set 0 _, ?_, ⟨E, hE.turn t2 ?_ ?_⟩, h.hp, h.hm⟩, t2⟩
  · rw [List.length_append, cellsL_snoc]
    exact ho.kept (grown_setCell wG p 0 _) (Or.inr (by have := kG.own_ne ho (by decide); simpa using this))
  · intro hb
    rcases List.mem_cons.1 hb with rfl | hb
    · exact hE.notcells h.blk
    · obtain ⟨_, _, cur, hc⟩ := own_cells h.own (Option.mem_toList.1 hb)
      exact hE.notcells hc
  · intro b hb cur hc
    rcases List.mem_cons.1 hb with rfl | hb
    · have h2 : w.heap[b]? = _ := h.blk
      rw [h2] at hc
      simp at hc
    · obtain ⟨_, _, cur', hc'⟩ := own_cells h.own (Option.mem_toList.1 hb)
      rw [hc'] at hc
      simp at hc

def putV3 (V : List Vs) (v : Vs) : Value := .tuple #[.agg (encS ((oldV V v).getD default)).toArray, .bool (oldV V v).isSome, .int .i64 (putE V v)]
def PutEnd (w : World) (base p bm : Nat) (sv : Value) (V : List Vs) (v : Vs) (e : Ending) (w' : World) : Prop :=
  ∃ sv2, e = .returned (putV3 V v) ∧ StAt w' base p bm sv2 (putV V v) ∧ Turn (StAt.bs p bm sv) w w' ∧ ∀ g, sv2.ownBlock = some g → sv.ownBlock = some g ∨ w.heap.size ≤ g
theorem put_fin {w w' : World} {base p bm : Nat} {sv sv2 : Value} {V : List Vs} {v o : Vs} {is : Bool} {O : Option Vs} (hE : putE V v = 0) (hO : latP V v.pl v.s = O) (ho : O.getD default = o) (hi : O.isSome = is)
    (hs : StAt w' base p bm sv2 (V ++ [v])) (ht : Turn (StAt.bs p bm sv) w w') (hg : ∀ g, sv2.ownBlock = some g → sv.ownBlock = some g ∨ w.heap.size ≤ g) :
    PutEnd w base p bm sv V v (.returned (.tuple #[.agg (encS o).toArray, .bool is, .int .i64 0])) w' := by
  refine ⟨sv2, ?_, ?_, ht, hg⟩
  · unfold putV3 oldV
    rw [if_pos hE, hO, ho, hi, hE]
  · unfold putV
    rw [if_pos hE]
    exact hs

theorem putE_zero {V : List Vs} {v : Vs} (h1 : ¬ v.s < 1) (h2 : ¬ v.s < seqV V) (h3 : ∀ o, latP V v.pl v.s = some o → o.s ≠ v.s) : putE V v = 0 := by
  unfold putE
  rw [if_neg (not_or.2 ⟨h1, h2⟩)]
  cases h : latP V v.pl v.s with
  | none => rfl
  | some o => exact if_neg (h3 o h)
theorem putE_there {V : List Vs} {v o : Vs} (h1 : ¬ v.s < 1) (h2 : ¬ v.s < seqV V) (h : latP V v.pl v.s = some o) (h3 : o.s = v.s) : putE V v = 17 := by
  unfold putE
  rw [if_neg (not_or.2 ⟨h1, h2⟩), h]
  exact if_pos h3
theorem opt_is {O : Option Vs} {o : Vs} (h1 : O.getD default = o) (h2 : O.isSome = true) : O = some o := by
  obtain ⟨x, rfl⟩ := Option.isSome_iff_exists.1 h2
  rw [← h1]
  rfl
theorem put7_turn (w : World) (B : Nat) (v : Vs) : Turn [B] w (put7 w B v) :=
  have h := fun (w : World) (j : Nat) (x : Value) => Turn.of_grown (bs := [B]) (grown_setCell w B j x) (List.mem_singleton.2 rfl)
  ((((((h _ 0 _).trans (h _ 1 _)).trans (h _ 2 _)).trans (h _ 3 _)).trans (h _ 4 _)).trans (h _ 5 _)).trans (h _ 6 _)
theorem Turn.then_below {bs : List Nat} {w w1 w2 : World} (h : Turn bs w w1) (hb : Below w.heap.size w1 w2) : Turn bs w w2 :=
  ⟨hb.os.trans h.os, hb.tape.trans h.tape, hb.output.trans h.output, Nat.le_trans h.size hb.size, fun k hk hn => (hb.block k hk).trans (h.block k hk hn)⟩

end Go.Proofs.Ytkloijkfaooodaa
