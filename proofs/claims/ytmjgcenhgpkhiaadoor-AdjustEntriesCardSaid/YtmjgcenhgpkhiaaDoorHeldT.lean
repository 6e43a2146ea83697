/- A region that draws its order and whose last operation writes what it loads: an operation may be taken first also where the last one waits for it by a chain. Over any program. -/
import Derived.Test.YtmjgcenhgpkhiaaDoorHeldG
import Derived.OrdersIn
import Derived.TacticsIn
import Derived.RangeFuncCalls
namespace Go.Proofs.YtmjgcenhgpkhiaaDoor
open Go
set_option linter.unusedVariables false
section
variable {P : Program} {ops : Array Oper} {Q : Exit → Act → World → Prop} {md : Region.Mode} {S : World → Prop} {L : Nat}
/-- Operation L waits for number i, in at most n + 1 steps. -/
def waitsB (md : Region.Mode) (ops : Array Oper) : Nat → Nat → Nat → Bool
  | 0, L, i => ((ops[L]?).map (·.after.any fun e => Region.binds md e && e.on == i)).getD false
  | n + 1, L, i => ((ops[L]?).map (·.after.any fun e => Region.binds md e && (e.on == i || waitsB md ops n e.on i))).getD false
/-- What has come up has all that it waits for. -/
def ClosedL (md : Region.Mode) (ops : Array Oper) (listed : Array Bool) : Prop := ∀ j o, ops[j]? = some o → listed.getD j true = true → j < listed.size → ∀ e ∈ o.after, Region.binds md e = true → listed.getD e.on false = true
def closedB (md : Region.Mode) (ops : Array Oper) (listed : Array Bool) : Bool := (List.range listed.size).all fun j => !listed.getD j true || ((ops[j]?).map (·.after.all fun e => !Region.binds md e || listed.getD e.on false)).getD true
theorem closed_of {listed : Array Bool} (h : closedB md ops listed = true) : ClosedL md ops listed := fun j o ho hl hj e he hb => by
  have h1 := List.all_eq_true.1 h j (List.mem_range.2 hj)
  simp only [hl, ho, Bool.not_true, Bool.false_or, Option.map_some, Option.getD_some, Array.all_eq_true, Bool.or_eq_true, Bool.not_eq_true'] at h1
  obtain ⟨k, hk, rfl⟩ := Array.mem_iff_getElem.1 he
  rcases h1 k hk with h2 | h2
  · rw [h2] at hb; cases hb
  · exact h2
theorem waits_listed {listed : Array Bool} (hc : ClosedL md ops listed) (hsz : listed.size = ops.size) : ∀ (n L i : Nat), waitsB md ops n L i = true → (∀ o, ops[L]? = some o → ∀ e ∈ o.after, Region.binds md e = true → listed.getD e.on false = true) → listed.getD i false = true := by
  intro n
  induction n with
  | zero =>
    intro L i h hd
    unfold waitsB at h
    cases ho : ops[L]? with
    | none => rw [ho] at h; cases h
    | some o =>
      rw [ho] at h
      simp only [Option.map_some, Option.getD_some, Array.any_eq_true, Bool.and_eq_true] at h
      obtain ⟨k, hk, hb, he⟩ := h
      have := hd o ho o.after[k] (Array.getElem_mem hk) hb
      rw [beq_iff_eq.1 he] at this
      exact this
  | succ n ih =>
    intro L i h hd
    unfold waitsB at h
    cases ho : ops[L]? with
    | none => rw [ho] at h; cases h
    | some o =>
      rw [ho] at h
      simp only [Option.map_some, Option.getD_some, Array.any_eq_true, Bool.and_eq_true, Bool.or_eq_true] at h
      obtain ⟨k, hk, hb, he⟩ := h
      have h1 := hd o ho o.after[k] (Array.getElem_mem hk) hb
      rcases he with he | he
      · rw [beq_iff_eq.1 he] at h1
        exact h1
      · refine ih _ i he fun o' ho' e' he' hb' => ?_
        have hlt : o.after[k].on < listed.size := by rw [hsz]; exact (Array.getElem?_eq_some_iff.1 ho').1
        refine hc _ o' ho' ?_ hlt e' he' hb'
        rw [Array.getD_eq_getD_getElem?, Array.getElem?_eq_getElem hlt] at h1 ⊢
        exact h1
theorem ClosedL.set {listed : Array Bool} {i : Nat} (hc : ClosedL md ops listed) (hi : i ∈ Region.ready md ops listed) : ClosedL md ops (listed.setIfInBounds i true) := fun j o ho hl hj e he hb => by
  obtain ⟨_, oi, hoi, hall⟩ := mem_ready.1 hi
  have up : listed.getD e.on false = true → (listed.setIfInBounds i true).getD e.on false = true := fun h => by
    rw [Array.getD_eq_getD_getElem?] at h ⊢
    rw [Array.getElem?_setIfInBounds]
    split
    · split
      · rfl
      · rename_i h1 h2
        have : listed[e.on]? = none := Array.getElem?_eq_none (by omega)
        rw [this] at h
        cases h
    · exact h
  by_cases hji : i = j
  · subst hji
    rw [hoi] at ho
    cases ho
    exact up (hall e he hb)
  · rw [getD_set_ne true hji] at hl
    exact up (hc j o ho hl (by simpa using hj) e he hb)
theorem wpAnyF_firstT {i n : Nat} (hL : (i == L || waitsB md ops n L i) = true) {oi : Oper} {v : Value} (hi : ops[i]? = some oi) (hsel : ∀ (j : Nat) (o : Oper) cs b, ops[j]? = some o → o.op ≠ .select cs b)
    (hQ : ∀ c a w, Q (.panic c) (a.put oi.dst v) w → Q (.panic c) a w) :
    ∀ (fuel : Nat) (listed : Array Bool) (a : Act) (w : World), listed.size = ops.size → ClosedL md ops listed →
      (∀ j oj, ops[j]? = some oj → j ≠ i → listed.getD j true = false → (∀ e ∈ oj.after, Region.binds md e = true → e.on ≠ i) → oi.apart ops oj = true) →
      i ∈ Region.ready md ops listed → YieldsC P ops S oi v a → S w →
      wpAnyF P md ops Q S L fuel (listed.setIfInBounds i true) (a.put oi.dst v) w → wpAnyF P md ops Q S L (fuel + 1) listed a w := by
  intro fuel
  induction fuel with
  | zero =>
    intro listed a w hsz _ _ hr hy hS H
    refine ⟨fun h => (by rw [h] at hr; cases hr), fun j hj => ?_⟩
    by_cases hji : j = i
    · subst hji; exact hy.wpOp hi hS ⟨.inr hS, H⟩
    · have := ready_mono hj hji
      rw [H.1] at this
      cases this
  | succ fuel ih =>
    intro listed a w hsz hcl hfree hr hy hS H
    refine ⟨fun h => (by rw [h] at hr; cases hr), fun j hj => ?_⟩
    by_cases hji : j = i
    · subst hji; exact hy.wpOp hi hS ⟨.inr hS, H⟩
    · have h1 := H.2 j (ready_mono hj hji)
      obtain ⟨hjun, oj, hoj, hall⟩ := mem_ready.1 hj
      have hnot : ∀ e ∈ oj.after, Region.binds md e = true → e.on ≠ i := fun e he hb heq => by
        have h1 := hall e he hb
        have h0 := (mem_ready.1 hr).1
        rw [heq] at h1
        rcases Nat.lt_or_ge i listed.size with h' | h'
        · simp [h'] at h0 h1; rw [h0] at h1; cases h1
        · simp [Array.getElem?_eq_none h'] at h1
      have h2 := wpOp_putC hoj (hfree j oj hoj hji hjun hnot) (fun cs b => hsel i oi cs b hi) (fun cs b => hsel j oj cs b hoj) hQ hy h1
      have hfree' : ∀ k ok, ops[k]? = some ok → k ≠ i → (listed.setIfInBounds j true).getD k true = false →
          (∀ e ∈ ok.after, Region.binds md e = true → e.on ≠ i) → oi.apart ops ok = true := fun k ok hk hki hun hno => by
        refine hfree k ok hk hki ?_ hno
        by_cases hjk : j = k
        · subst hjk; exact hjun
        · rw [getD_set_ne true hjk] at hun; exact hun
      have hjL : j ≠ L := by
        rintro rfl
        rcases Bool.or_eq_true_iff.1 hL with h | h
        · exact hji (beq_iff_eq.1 h).symm
        · have h3 := waits_listed hcl hsz n j i h (fun o ho e he hb => by rw [hoj] at ho; cases ho; exact hall e he hb)
          have h0 := (mem_ready.1 hr).1
          have hlt : i < listed.size := by rw [hsz]; exact (Array.getElem?_eq_some_iff.1 hi).1
          rw [Array.getD_eq_getD_getElem?, Array.getElem?_eq_getElem hlt] at h3 h0
          simp at h3 h0
          rw [h0] at h3
          cases h3
      refine wpOp_mono (fun a' w' h3 => ?_) h2
      have hS' : S w' := h3.2.1.resolve_left hjL
      refine ⟨.inr hS', ih (listed.setIfInBounds j true) a' w' (by simpa using hsz) (hcl.set hj) hfree' (ready_mono hr (Ne.symm hji)) h3.1 hS' ?_⟩
      rw [Array.setIfInBounds_comm _ _ hji]
      exact h3.2.2
theorem fT_take {l r : List Oper} {i : Nat} {oi : Oper} {v : Value} {fuel : Nat} {listed : Array Bool} {a : Act} {w : World} (hi : l.drop i = oi :: r)
    (hk : ((i == L || waitsB md l.toArray 6 L i) && decide (listed.size = l.toArray.size) && closedB md l.toArray listed && Region.noSelect l.toArray && Region.free md l.toArray listed i && (Region.ready md l.toArray listed).contains i) = true)
    (hQ : ∀ c a w, Q (.panic c) (a.put oi.dst v) w → Q (.panic c) a w) (hw : Region.wanted oi (yielded l.toArray a.tmps) = true) (hS : S w) (hy : ∀ w, S w → (execOp a.eval oi).run P w = .ok (.value v) w)
    (h : wpAnyF P md l.toArray Q S L fuel (listed.setIfInBounds i true) (a.put oi.dst v) w) : wpAnyF P md l.toArray Q S L (fuel + 1) listed a w := by
  have hk' := hk
  rw [Bool.and_eq_true, Bool.and_eq_true, Bool.and_eq_true, Bool.and_eq_true, Bool.and_eq_true, decide_eq_true_eq] at hk'
  obtain ⟨⟨⟨⟨⟨h1, h2⟩, h3⟩, h4⟩, h5⟩, h6⟩ := hk'
  exact wpAnyF_firstT h1 (of_drop hi) (Region.noSelect_spec h4) hQ fuel listed a w h2 (closed_of h3) (Region.free_spec (of_drop hi) h5) (by simpa using h6) (Or.inl ⟨hw, fun w hw => by rw [hy w hw]; exact ⟨rfl, rfl⟩⟩) hS h
theorem fT_call {l r : List Oper} {i : Nat} {oi : Oper} {v : Value} {fuel : Nat} {listed : Array Bool} {a : Act} {w : World} (hi : l.drop i = oi :: r)
    (hk : ((i == L || waitsB md l.toArray 6 L i) && decide (listed.size = l.toArray.size) && closedB md l.toArray listed && Region.noSelect l.toArray && Region.free md l.toArray listed i && (Region.ready md l.toArray listed).contains i) = true)
    (hQ : ∀ c a w, Q (.panic c) (a.put oi.dst v) w → Q (.panic c) a w) (hw : Region.wanted oi (yielded l.toArray a.tmps) = true) (hS : S w) (hy : ∀ w, S w → StillRes P v w ((execOp a.eval oi).run P w))
    (h : wpAnyF P md l.toArray Q S L fuel (listed.setIfInBounds i true) (a.put oi.dst v) w) : wpAnyF P md l.toArray Q S L (fuel + 1) listed a w := by
  have hk' := hk
  rw [Bool.and_eq_true, Bool.and_eq_true, Bool.and_eq_true, Bool.and_eq_true, Bool.and_eq_true, decide_eq_true_eq] at hk'
  obtain ⟨⟨⟨⟨⟨h1, h2⟩, h3⟩, h4⟩, h5⟩, h6⟩ := hk'
  exact wpAnyF_firstT h1 (of_drop hi) (Region.noSelect_spec h4) hQ fuel listed a w h2 (closed_of h3) (Region.free_spec (of_drop hi) h5) (by simpa using h6) (Or.inl ⟨hw, hy⟩) hS h
theorem fT_skip {l r : List Oper} {i : Nat} {oi : Oper} {fuel : Nat} {listed : Array Bool} {a : Act} {w : World} (hi : l.drop i = oi :: r)
    (hk : ((i == L || waitsB md l.toArray 6 L i) && decide (listed.size = l.toArray.size) && closedB md l.toArray listed && Region.noSelect l.toArray && Region.free md l.toArray listed i && (Region.ready md l.toArray listed).contains i) = true)
    (hQ : ∀ c a w, Q (.panic c) (a.put oi.dst undef) w → Q (.panic c) a w) (hw : Region.wanted oi (yielded l.toArray a.tmps) = false) (hS : S w)
    (h : wpAnyF P md l.toArray Q S L fuel (listed.setIfInBounds i true) (a.put oi.dst undef) w) : wpAnyF P md l.toArray Q S L (fuel + 1) listed a w := by
  have hk' := hk
  rw [Bool.and_eq_true, Bool.and_eq_true, Bool.and_eq_true, Bool.and_eq_true, Bool.and_eq_true, decide_eq_true_eq] at hk'
  obtain ⟨⟨⟨⟨⟨h1, h2⟩, h3⟩, h4⟩, h5⟩, h6⟩ := hk'
  exact wpAnyF_firstT h1 (of_drop hi) (Region.noSelect_spec h4) hQ fuel listed a w h2 (closed_of h3) (Region.free_spec (of_drop hi) h5) (by simpa using h6) (Or.inr ⟨hw, rfl⟩) hS h
end
end Go.Proofs.YtmjgcenhgpkhiaaDoor
