/- AgendaThere: what a call does to the numbers that are there (plainly); the array of what is there. -/
import Derived.Test.YtgcncnmkfpfccaaAgT
namespace Go.Proofs.Ytgcncnmkfpfccaa
open Go.RowKit Go.Sort Go.Shelf
set_option linter.unusedVariables false
set_option linter.unusedSimpArgs false

theorem take_none {S : List It} {d : Int} (h : takeO S d = none) : takeS S d = S := by
  cases S with
  | nil => rfl
  | cons x S =>
    unfold takeO at h
    unfold takeS
    dsimp only at h ⊢
    split at h
    · rw [if_pos ‹_›]
    · cases h
theorem op_keep {S : List It} {N a d n : Int} (h : (opV S N a d n).2 ≠ 0) : opS S N a d n = S ∧ opN N a d = N := by
  unfold opV at h
  unfold opS opN
  by_cases h0 : a = 0
  · rw [if_pos h0] at h ⊢
    by_cases hd : dayB d = true
    · rw [if_pos hd] at h
      exact absurd rfl h
    · rw [if_neg hd, if_neg (fun e => hd e.2)]
      exact ⟨rfl, rfl⟩
  rw [if_neg h0] at h ⊢
  rw [if_neg (show ¬ (a = 0 ∧ dayB d = true) from fun e => h0 e.1)]
  refine ⟨?_, rfl⟩
  by_cases h1 : a = 1
  · rw [if_pos h1] at h ⊢
    cases ho : takeO S d with
    | none => exact take_none ho
    | some x => rw [ho] at h; exact absurd rfl h
  rw [if_neg h1] at h ⊢
  by_cases h2 : a = 2
  · rw [if_pos h2] at h ⊢
    cases ho : getO S n with
    | none => exact drop_none (getO_none.1 ho)
    | some x => rw [ho] at h; exact absurd rfl h
  rw [if_neg h2] at h ⊢
  dsimp only at h
  unfold moveE at h
  unfold moveS
  cases ho : getO S n with
  | none => rfl
  | some x =>
    rw [ho] at h
    dsimp only [Option.isSome] at h ⊢
    rw [if_pos rfl] at h
    by_cases hd : dayB d = true
    · rw [if_pos hd] at h
      exact absurd rfl h
    · rw [if_neg hd]
def HasN (S : List It) (i : Int) : Prop := ∃ x ∈ S, x.n = i
instance (S : List It) (i : Int) : Decidable (HasN S i) := by unfold HasN; infer_instance
theorem op_put {S : List It} {N d n : Int} (h : (opV S N 0 d n).2 = 0) (hr : Rising It.ky S) (hn : ∀ x ∈ S, 0 ≤ x.n ∧ x.n < N) : opV S N 0 d n = (⟨0, N, 0⟩, 0) ∧ opN N 0 d = N + 1 ∧ ∀ i, HasN (opS S N 0 d n) i ↔ HasN S i ∨ i = N := by
  unfold opV at h ⊢
  unfold opS opN
  rw [if_pos rfl] at h ⊢
  by_cases hd : dayB d = true
  · rw [if_pos hd, if_pos ⟨rfl, hd⟩]
    refine ⟨rfl, rfl, fun i => ?_⟩
    rw [if_pos rfl, if_pos hd]
    have hp := put_new (d := d) (t := n) hr hn
    unfold HasN
    constructor
    · rintro ⟨x, hx, rfl⟩
      rcases List.mem_cons.1 (hp.mem_iff.1 hx) with rfl | hx
      · exact .inr rfl
      · exact .inl ⟨x, hx, rfl⟩
    · rintro (⟨x, hx, rfl⟩ | rfl)
      · exact ⟨x, hp.mem_iff.2 (List.mem_cons_of_mem _ hx), rfl⟩
      · exact ⟨_, hp.mem_iff.2 (List.mem_cons_self), rfl⟩
  · rw [if_neg hd] at h
    cases h
theorem has_drop {S : List It} {x : It} {i : Int} : HasN (dropS S x.n) i ↔ HasN S i ∧ i ≠ x.n := by
  unfold HasN dropS
  constructor
  · rintro ⟨z, hz, rfl⟩
    have := List.mem_filter.1 hz
    exact ⟨⟨z, this.1, rfl⟩, by simpa using this.2⟩
  · rintro ⟨⟨z, hz, rfl⟩, hne⟩
    exact ⟨z, List.mem_filter.2 ⟨hz, by simpa using hne⟩, rfl⟩
theorem op_off {S : List It} {N a d n : Int} (ha : a = 1 ∨ a = 2) (h : (opV S N a d n).2 = 0) (hn : Nos S) : ∃ x, x ∈ S ∧ opV S N a d n = (x, 0) ∧ opN N a d = N ∧ ∀ i, HasN (opS S N a d n) i ↔ HasN S i ∧ i ≠ x.n := by
  have h0 : a ≠ 0 := by omega
  unfold opV at h ⊢
  unfold opS opN
  rw [if_neg h0] at h ⊢
  rw [if_neg (show ¬ (a = 0 ∧ dayB d = true) from fun e => h0 e.1)]
  by_cases h1 : a = 1
  · rw [if_pos h1] at h ⊢
    cases S with
    | nil => cases h
    | cons x S =>
      unfold takeO takeS at *
      dsimp only at h ⊢
      by_cases hd : d < x.d
      · rw [if_pos hd] at h; cases h
      · rw [if_neg hd]
        refine ⟨x, List.mem_cons_self, rfl, rfl, fun i => ?_⟩
        rw [if_neg h0, if_pos h1, if_neg hd]
        unfold Nos at hn
        simp only [List.map_cons, List.nodup_cons, List.mem_map, not_exists, not_and] at hn
        unfold HasN
        constructor
        · rintro ⟨z, hz, rfl⟩
          exact ⟨⟨z, List.mem_cons_of_mem _ hz, rfl⟩, hn.1 z hz⟩
        · rintro ⟨⟨z, hz, rfl⟩, hne⟩
          rcases List.mem_cons.1 hz with rfl | hz
          · exact absurd rfl hne
          · exact ⟨z, hz, rfl⟩
  · have h2 : a = 2 := by omega
    rw [if_neg h1, if_pos h2] at h ⊢
    cases ho : getO S n with
    | none => rw [ho] at h; cases h
    | some x =>
      obtain ⟨hx, rfl⟩ := getO_some ho
      refine ⟨x, hx, rfl, rfl, fun i => ?_⟩
      rw [if_neg h0, if_neg h1, if_pos h2]
      exact has_drop
theorem op_move {S : List It} {N a d n : Int} (h0 : a ≠ 0) (h1 : a ≠ 1) (h2 : a ≠ 2) (hr : Rising It.ky S) : opN N a d = N ∧ ∀ i, HasN (opS S N a d n) i ↔ HasN S i := by
  unfold opS opN
  rw [if_neg (show ¬ (a = 0 ∧ dayB d = true) from fun e => h0 e.1)]
  refine ⟨rfl, fun i => ?_⟩
  rw [if_neg h0, if_neg h1, if_neg h2]
  unfold moveS
  cases ho : getO S n with
  | none => exact Iff.rfl
  | some x =>
    obtain ⟨hx, rfl⟩ := getO_some ho
    dsimp only
    by_cases hd : dayB d = true
    · rw [if_pos hd]
      have hp := putK_new (x := ⟨d, x.n, x.t⟩) (drop_rising hr x.n) (fun z hz e => drop_no hz (by simp [It.ky] at e; exact e.2))
      have := @has_drop S x i
      constructor
      · rintro ⟨z, hz, rfl⟩
        rcases List.mem_cons.1 (hp.mem_iff.1 hz) with rfl | hz
        · exact ⟨x, hx, rfl⟩
        · exact (has_drop.1 ⟨z, hz, rfl⟩).1
      · intro hi
        by_cases he : i = x.n
        · exact ⟨_, hp.mem_iff.2 List.mem_cons_self, he.symm⟩
        · obtain ⟨z, hz, rfl⟩ := this.2 ⟨hi, he⟩
          exact ⟨z, hp.mem_iff.2 (List.mem_cons_of_mem _ hz), rfl⟩
    · rw [if_neg hd]
/-- The array of what is there. -/
def ThAt (w : World) (tb : Nat) (P : Int → Prop) : Prop := ∃ (T : TypeId) (cs : Array Value), Blk w tb cs T ∧ cs.size = 61 ∧ ∀ i : Nat, i < 61 → ∃ b : Bool, cs[i]? = some (.bool b) ∧ (b = true ↔ P i)
theorem ThAt.cell {w : World} {tb : Nat} {P : Int → Prop} (h : ThAt w tb P) {i : Nat} (hi : i < 61) {b : Bool} (hb : b = true ↔ P i) : w.cell? ⟨tb, i, none⟩ = some (.bool b) := by
  obtain ⟨T, cs, hB, _, hc⟩ := h
  obtain ⟨b', e, h'⟩ := hc i hi
  have : b' = b := by
    have := h'.trans hb.symm
    cases b <;> cases b' <;> simp_all
  exact hB.cell i (by rw [e, this])
theorem ThAt.free {w : World} {tb : Nat} {P : Int → Prop} (h : ThAt w tb P) (i : Nat) : w.frozen? ⟨tb, i, none⟩ = false := by
  obtain ⟨T, cs, hB, _, _⟩ := h
  exact hB.free i
theorem ThAt.congr {w : World} {tb : Nat} {P Q : Int → Prop} (h : ThAt w tb P) (e : ∀ i, P i ↔ Q i) : ThAt w tb Q := by
  obtain ⟨T, cs, hB, hs, hc⟩ := h
  exact ⟨T, cs, hB, hs, fun i hi => by obtain ⟨b, h1, h2⟩ := hc i hi; exact ⟨b, h1, h2.trans (e i)⟩⟩
theorem ThAt.set {w : World} {tb : Nat} {P Q : Int → Prop} (h : ThAt w tb P) (i : Nat) (hi : i < 61) (b : Bool) (hb : b = true ↔ Q i) (e : ∀ j : Nat, j ≠ i → (P j ↔ Q j)) : ThAt (w.setCell ⟨tb, i, none⟩ (.bool b)) tb Q := by
  obtain ⟨T, cs, hB, hs, hc⟩ := h
  refine ⟨T, cs.setIfInBounds i (.bool b), hB.set i _, by simp [hs], fun j hj => ?_⟩
  by_cases hji : j = i
  · subst hji
    exact ⟨b, by rw [Array.getElem?_setIfInBounds, if_pos rfl, if_pos (by omega)], hb⟩
  · obtain ⟨b', h1, h2⟩ := hc j hj
    exact ⟨b', by rw [Array.getElem?_setIfInBounds, if_neg (fun e => hji e.symm)]; exact h1, h2.trans (e j hji)⟩
theorem KeptX.th {X : Nat → Prop} {w w' : World} {tb : Nat} {P : Int → Prop} (h : KeptX X w w') (hT : ThAt w tb P) (hX : X tb) : ThAt w' tb P := by
  obtain ⟨T, cs, hB, hs, hc⟩ := hT
  exact ⟨T, cs, h.blk hB hX, hs, hc⟩
theorem ThAt.after {w w' : World} {tb : Nat} {P : Int → Prop} (hT : ThAt w tb P) (hb : Below w.heap.size w w') : ThAt w' tb P := by
  obtain ⟨T, cs, hB, hs, hc⟩ := hT
  exact ⟨T, cs, hB.after hb, hs, hc⟩
/-- A store in a block of X. -/
theorem AgX.store {w : World} {base B bm : Nat} {S : List It} {N : Int} {X : Nat → Prop} (h : AgX w base B bm S N X) {b i : Nat} (hX : X b) (v : Value) : AgX (w.setCell ⟨b, i, none⟩ v) base B bm S N X := by
  obtain ⟨sv, hA, hx⟩ := h.ex
  have ht : Turn [b] w (w.setCell ⟨b, i, none⟩ v) := Turn.of_grown (grown_setCell _ _ _ _) (by simp)
  exact ⟨⟨sv, hA.turn ht (fun c hc => by simp; rintro rfl; exact (hx _ hX).2 hc), fun c hc => ⟨by have := (hx c hc).1; have := ht.size; omega, (hx c hc).2⟩⟩⟩

theorem ThAt.new (w : World) (cs : Array Value) (T : TypeId) (h : cs = Array.replicate 61 (.bool false)) : ThAt (w.alloc (.cells cs T)) w.heap.size (HasN []) :=
  ⟨T, cs, Blk.new _ _ _, by rw [h]; simp, fun i hi => ⟨false, by rw [h]; simp [hi], by simp [HasN]⟩⟩
/-- How many numbers below n are there. -/
def cntN (S : List It) (n : Nat) : Nat := ((List.range n).filter fun (k : Nat) => decide (HasN S (k : Int))).length
theorem cntN_succ (S : List It) (n : Nat) : cntN S (n + 1) = cntN S n + (if HasN S (n : Int) then 1 else 0) := by
  unfold cntN
  rw [List.range_succ, List.filter_append, List.length_append]
  congr 1
  by_cases h : HasN S (n : Int) <;> simp [h]
theorem cntN_le (S : List It) (n : Nat) : cntN S n ≤ n := by
  have := List.length_filter_le (fun (k : Nat) => decide (HasN S (k : Int))) (List.range n)
  simpa [cntN] using this
theorem cntN_all {S : List It} {n : Nat} (hn : Nos S) (h : ∀ x ∈ S, 0 ≤ x.n ∧ x.n < (n : Int)) : cntN S n = S.length := by
  have hp : (((List.range n).filter fun (k : Nat) => decide (HasN S (k : Int))).map fun (k : Nat) => (k : Int)).Perm (S.map It.n) := by
    refine (List.perm_ext_iff_of_nodup ?_ hn).2 fun i => ?_
    · refine List.Pairwise.map _ (fun a b hab => ?_) (List.Pairwise.sublist List.filter_sublist List.nodup_range)
      intro e
      exact hab (by omega)
    · simp only [List.mem_map, List.mem_filter, List.mem_range, decide_eq_true_eq]
      constructor
      · rintro ⟨k, ⟨_, x, hx, e⟩, rfl⟩
        exact ⟨x, hx, e⟩
      · rintro ⟨x, hx, rfl⟩
        have := h x hx
        exact ⟨x.n.toNat, ⟨by omega, x, hx, by omega⟩, by omega⟩
  have := hp.length_eq
  simpa [cntN] using this
theorem has_next {S : List It} (hn : Nos S) {j : Nat} {x : It} (hx : S[j]? = some x) (i : Int) : HasN (S.drop (j + 1)) i ↔ HasN (S.drop j) i ∧ i ≠ x.n := by
  obtain ⟨hlt, hx'⟩ := List.getElem?_eq_some_iff.1 hx
  have e := List.drop_eq_getElem_cons hlt
  have hn' : Nos (S.drop j) := List.Nodup.sublist (List.Sublist.map _ (List.drop_sublist j S)) hn
  rw [e, hx'] at hn' ⊢
  unfold Nos at hn'
  simp only [List.map_cons, List.nodup_cons, List.mem_map, not_exists, not_and] at hn'
  unfold HasN
  constructor
  · rintro ⟨z, hz, rfl⟩
    exact ⟨⟨z, List.mem_cons_of_mem _ hz, rfl⟩, hn'.1 z hz⟩
  · rintro ⟨⟨z, hz, rfl⟩, hne⟩
    rcases List.mem_cons.1 hz with rfl | hz
    · exact absurd rfl hne
    · exact ⟨z, hz, rfl⟩

end Go.Proofs.Ytgcncnmkfpfccaa
