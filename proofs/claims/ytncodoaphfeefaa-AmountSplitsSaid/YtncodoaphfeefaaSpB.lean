/- chattelref01.Split, plainly: where its gifts go. -/
import Derived.Test.YtncodoaphfeefaaSpA
namespace Go.Proofs.Ytncodoaphfeefaa
open Go.RowKit Go.Shelf Go.Sort
set_option linter.unusedVariables false
set_option linter.unusedSimpArgs false

/-- What is left at a place, -1 behind its gift. -/
def zsF (T S : Nat) (ws : List Int) (d : Array Cut) (g i : Nat) : Int := if gift d g i = true then -1 else (rW T S ws i : Int)
theorem zsF_zero (T S : Nat) (ws : List Int) (d : Array Cut) (i : Nat) : zsF T S ws d 0 i = (rW T S ws i : Int) := by simp [zsF, gift]
/-- The best place so far. -/
structure BestI (zs : Nat → Int) (i b : Nat) : Prop where
  lt : b < i
  all : ∀ j, j < i → zs j ≤ zs b
  fst : ∀ j, j < b → zs j < zs b
theorem BestI.start (zs : Nat → Int) : BestI zs 1 0 := by
  refine ⟨by omega, fun j h => ?_, fun j h => by omega⟩
  obtain rfl : j = 0 := by omega
  exact Int.le_refl _
theorem BestI.up {zs : Nat → Int} {i b : Nat} (h : BestI zs i b) (hg : zs b < zs i) : BestI zs (i + 1) i := ⟨by omega, fun j hj => by
    rcases Nat.lt_or_ge j i with c | c
    · have := h.all j c; omega
    · obtain rfl : j = i := by omega
      exact Int.le_refl _, fun j hj => by have := h.all j hj; omega⟩
theorem BestI.stay {zs : Nat → Int} {i b : Nat} (h : BestI zs i b) (hg : ¬ zs b < zs i) : BestI zs (i + 1) b := ⟨by have := h.lt; omega, fun j hj => by
    rcases Nat.lt_or_ge j i with c | c
    · exact h.all j c
    · obtain rfl : j = i := by omega
      omega, h.fst⟩
theorem best_is {T S : Nat} {ws : List Int} {n g b : Nat} {d : Array Cut} (h : SortedOf (cutsL T S ws n).toArray d) (hg : g < n) (hb : BestI (zsF T S ws d g) n b) : b = (d[g]!).1 := by
  obtain ⟨hs, hm⟩ := sorted_at h
  obtain ⟨m1, m2, m3⟩ := hm g hg
  obtain ⟨h1, h2, h3⟩ := hb
  have e1 : zsF T S ws d g (d[g]!).1 = (rW T S ws (d[g]!).1 : Int) := by unfold zsF; rw [if_neg (by simp [m3])]
  have e2 := h2 _ m1
  rw [e1] at e2
  by_cases hgb : gift d g b = true
  · have : zsF T S ws d g b = -1 := if_pos hgb
    omega
  have e3 : zsF T S ws d g b = (rW T S ws b : Int) := if_neg hgb
  obtain ⟨p, hp, e4⟩ := cut_at h h1
  have hpg : g ≤ p := by
    rcases Nat.lt_or_ge p g with c | c
    · exact absurd ((gift_iff (by omega)).2 ⟨p, c, by rw [e4]⟩) hgb
    · exact c
  rcases Nat.lt_or_eq_of_le hpg with c | c
  · have r := h.rises g p c (by omega)
    unfold lexC at r
    rw [e4, m2] at r
    simp only at r
    rw [e3] at e2
    have hlt : (d[g]!).1 < b := by omega
    have := h3 _ hlt
    rw [e1, e3] at this
    omega
  · rw [c, e4]
theorem zs_step {T S : Nat} {ws : List Int} {n g : Nat} {d : Array Cut} (h : SortedOf (cutsL T S ws n).toArray d) (hg : g < n) (i : Nat) : zsF T S ws d (g + 1) i = if i = (d[g]!).1 then -1 else zsF T S ws d g i := by
  obtain ⟨hs, hm⟩ := sorted_at h
  unfold zsF
  rw [gift_succ d g i (by omega)]
  by_cases c : i = (d[g]!).1
  · rw [if_pos c, c]; simp
  · have : ((d[g]!).1 == i) = false := by simp; exact fun e => c e.symm
    rw [if_neg c, this, Bool.or_false]
/-- The numbers of a row. -/
def ZsAt (rs : List Rst) (n : Nat) (zs : Nat → Int) : Prop := rs.length = n ∧ ∀ i, i < n → ∃ r, rs[i]? = some r ∧ r.z = zs i
theorem ZsAt.snoc {rs : List Rst} {n : Nat} {zs : Nat → Int} (h : ZsAt rs n zs) (r : Rst) (hr : r.z = zs n) : ZsAt (rs ++ [r]) (n + 1) zs := by
  refine ⟨by rw [List.length_append, h.1]; rfl, fun i hi => ?_⟩
  rcases Nat.lt_or_ge i n with c | c
  · obtain ⟨x, h1, h2⟩ := h.2 i c
    exact ⟨x, by rw [List.getElem?_append_left (by rw [h.1]; exact c)]; exact h1, h2⟩
  · obtain rfl : i = n := by omega
    exact ⟨r, by rw [List.getElem?_append_right (by rw [h.1]; exact Nat.le_refl _), h.1]; simp, hr⟩
theorem ZsAt.set {T S : Nat} {ws : List Int} {n g : Nat} {d : Array Cut} (h : SortedOf (cutsL T S ws n).toArray d) (hg : g < n) {rs : List Rst} (hz : ZsAt rs n (zsF T S ws d g)) (r : Rst) (hr : r.z = -1) {b : Nat} (hb : b = (d[g]!).1) : ZsAt (rs.set b r) n (zsF T S ws d (g + 1)) := by
  refine ⟨by rw [List.length_set]; exact hz.1, fun i hi => ?_⟩
  rw [zs_step h hg i, ← hb]
  obtain ⟨x, h1, h2⟩ := hz.2 i hi
  by_cases c : i = b
  · rw [if_pos c]
    refine ⟨r, ?_, hr⟩
    rw [c, List.getElem?_set_self (by rw [hz.1]; omega)]
  · rw [if_neg c]
    exact ⟨x, by rw [List.getElem?_set_ne (fun e => c e.symm)]; exact h1, h2⟩
theorem SpI.setOut' {wb w : World} {vr : Value} {outs : List Int} {rs ts : List Rst} {g cap n : Nat} (hn : outs.length = n) (h : SpI wb w (.slice (some ⟨g, 0, none⟩) n cap) vr outs rs ts) (i : Nat) (hi : i < n) (x : Int) :
    SpI wb (w.setCell ⟨g, i, none⟩ (.int .i64 x)) (.slice (some ⟨g, 0, none⟩) n cap) vr (outs.set i x) rs ts := by
  subst hn
  exact h.setOut i hi x
theorem SpI.setRest' {wb w : World} {vo : Value} {outs : List Int} {rs ts : List Rst} {g cap n : Nat} (hn : rs.length = n) (h : SpI wb w vo (.slice (some ⟨g, 0, none⟩) n cap) outs rs ts) (i : Nat) (hi : i < n) (r : Rst) :
    SpI wb ((w.setCell ⟨g, i * 2, none⟩ (.bool r.s)).setCell ⟨g, i * 2 + 1, none⟩ (.slice r.a r.l r.c)) vo (.slice (some ⟨g, 0, none⟩) n cap) outs (rs.set i r) ts := by
  subst hn
  exact h.setRest i hi r
/-- The number -1, as the loop lays it. -/
theorem minus_one (w : World) : Rst.ok (w.alloc (.cells #[.int .i64 1] 3)) ⟨-1, true, some ⟨w.heap.size, 0, none⟩, 1, 1⟩ := by
  have hl : blen (-1 : Int).natAbs = 1 := by decide
  refine ⟨(decide_eq_true (by show (-1 : Int) < 0; omega)).symm, hl.symm, Nat.le_refl _, (by show 1 ≤ maxLen; unfold maxLen; omega), fun _ => ⟨w.heap.size, 0, rfl, fun i hi => ?_⟩⟩
  have hi' : i < 1 := hi
  obtain rfl : i = 0 := by omega
  have hv : bitV (-1 : Int).natAbs 0 = .int .i64 1 := by unfold bitV; rw [show bitAt (-1 : Int).natAbs 0 = 1 by decide]
  show _ = some (bitV (-1 : Int).natAbs 0)
  rw [hv]
  exact (Blk.new w #[.int .i64 1] 3).cell 0 rfl

end Go.Proofs.Ytncodoaphfeefaa
