/- slices.Chunk's iterator, by 31 bytes. -/
import Derived.Test.YtkloijkfaooodaaBitZ
import Derived.RegionIn
namespace Go.Proofs.Ytkloijkfaooodaa
open Go.RowKit Go.Sort Go.Shelf
set_option linter.unusedVariables false
set_option linter.unusedSimpArgs false
attribute [local go_sem] Oper.semAt_some

def ChAt (w : World) (n₀ Bs : Nat) (v : Value) : Prop := Blk w Bs #[v] 52 ∧ Blk w (Bs + 1) #[.int .i64 31] 3 ∧ Bs + 1 < n₀
theorem ChAt.below {w w' : World} {n₀ Bs : Nat} {v : Value} (h : ChAt w n₀ Bs v) (hb : RowKit.Below n₀ w w') : ChAt w' n₀ Bs v := ⟨h.1.below hb (by have := h.2.2; omega), h.2.1.below hb h.2.2, h.2.2⟩
/-- The iterator's own boxes are as they were. -/
structure Keep2 (Bs : Nat) (W W' : World) : Prop where
  a : W'.heap[Bs]? = W.heap[Bs]?
  b : W'.heap[Bs + 1]? = W.heap[Bs + 1]?
  size : W.heap.size ≤ W'.heap.size
theorem Keep2.refl (Bs : Nat) (W : World) : Keep2 Bs W W := ⟨rfl, rfl, Nat.le_refl _⟩
theorem Keep2.trans {Bs : Nat} {A B C : World} (h : Keep2 Bs A B) (k : Keep2 Bs B C) : Keep2 Bs A C := ⟨k.a.trans h.a, k.b.trans h.b, Nat.le_trans h.size k.size⟩
theorem Keep2.of_below {Bs : Nat} {W W' : World} (h : RowKit.Below W.heap.size W W') (hl : Bs + 1 < W.heap.size) : Keep2 Bs W W' := ⟨h.block _ (by omega), h.block _ hl, h.size⟩
theorem Keep2.of_turn {Bs : Nat} {bs : List Nat} {W W' : World} (h : Turn bs W W') (hl : Bs + 1 < W.heap.size) (h1 : Bs ∉ bs) (h2 : Bs + 1 ∉ bs) : Keep2 Bs W W' := ⟨h.block _ (by omega) h1, h.block _ hl h2, h.size⟩
theorem keep2_b {Bs : Nat} {w : World} (hn : Bs + 1 < w.heap.size) (W : World) (l : Nat) (o o' : Obj) (hl : w.heap.size ≤ l) (h : W.heap[l]? = some o) (_ : o.isCells = false) (_ : o.isWalk = false) : Keep2 Bs W (W.putObj l o') :=
  have hg := grownBy_putObj' W l o'
  ⟨World.putObj_heap_other (by omega), World.putObj_heap_other (by omega), hg.size⟩
theorem ChAt.keep {w w' : World} {n₀ Bs : Nat} {v : Value} (h : ChAt w n₀ Bs v) (hb : Keep2 Bs w w') : ChAt w' n₀ Bs v := ⟨hb.a.trans h.1, hb.b.trans h.2.1, h.2.2⟩
abbrev encC (b o m : Nat) (k : Fin m) : Array Value := #[.slice (some ⟨b, o + 31 * k.val, none⟩) 31 31]
theorem fin_take (m j : Nat) (h : j < m) : (List.finRange m).take (j + 1) = (List.finRange m).take j ++ [⟨j, h⟩] := by
  rw [List.take_succ_eq_append_getElem (by simpa using h), List.getElem_finRange]
  rfl
set_option maxRecDepth 100000 in
set_option maxHeartbeats 4000000 in
theorem chunk_stops (n : Nat) (hn : 1 ≤ n) (n₀ Bs : Nat) (a : Option Addr) (b o m cap : Nat) (ha : 0 < m → a = some ⟨b, o, none⟩) (hcap : 31 * m ≤ cap) (hm : cap ≤ 9223372036854775807) (w0 : World) (h0 : ChAt w0 n₀ Bs (.slice a (31 * m) cap)) (hn0 : n₀ ≤ w0.heap.size) (hsm : m ≤ 1000) :
    SeqStopsK Fence.wide n Try.prog 58 #[.pointer (some ⟨Bs, 0, none⟩), .pointer (some ⟨Bs + 1, 0, none⟩)] (encC b o m) (Keep2 Bs) (fun xs => xs = List.finRange m) (fun pre => pre <+: List.finRange m) m w0 := fun l J Jx W hW hJ hJx hY hJ0 => by
  have HS := Lib.hid (h0.below (hW.mono hn0))
  have zW := hW.size
  clear h0
  refine callsIn_of_wp Try.func58 rfl trivial ?_ rfl
  simp only [Try.ntmps58, List.size_toArray, List.length_cons, List.length_nil, Nat.reduceAdd, Nat.reduceSub, Array.replicate_succ, Array.replicate_zero, List.push_toArray, List.append_toArray, List.nil_append, List.cons_append]
  gi_wp2_with fail
  gi_loopw [4] (fun c wr => ∃ j : Nat, j ≤ m ∧ c = .int .i64 ((31 * j : Nat) : Int) ∧ J ((List.finRange m).take j) wr ∧ Keep2 Bs W wr) (fun c _ => 31 * m - (intOf c).toNat)
  case atStart => exact ⟨0, by omega, rfl, hJ0, Keep2.refl _ _⟩
  case round =>
    obtain ⟨j, hj, rfl, hJk, hbk⟩ := hrel
    have zk := hbk.size
    have q1 : wr.cell? ⟨Bs, 0, none⟩ = some (.slice a (31 * m) cap) := (HS.out.keep hbk).1.cell 0 rfl
    have q2 : wr.cell? ⟨Bs + 1, 0, none⟩ = some (.int .i64 31) := (HS.out.keep hbk).2.1.cell 0 rfl
    obtain ⟨A, hA⟩ : ∃ A, 31 * j = A := ⟨_, rfl⟩
    obtain ⟨M, hM⟩ : ∃ M, 31 * m = M := ⟨_, rfl⟩
    rw [hA]
    rw [hM] at q1 hcap ⊢
    by_cases hlt : j < m
    · obtain rfl := ha (by omega)
      have hbd : RowKit.Below wr.heap.size wr wr.drew := (RowKit.Below.refl _ _).drew
      have hJ2 : J ((List.finRange m).take j) wr.drew := hJ _ wr _ none hJk (below_grownN hbd) (by rintro r ⟨⟩)
      obtain ⟨fn, tmps, assign, body, hy, hR3⟩ := hY _ ⟨j, hlt⟩ _ hJ2 (by rw [List.length_take, List.length_finRange]; omega)
      have i0 : A < M := by omega
      have i1 : (0 : Int) ≤ (A : Int) := by omega
      have i2 : (A : Int) < (M : Int) := by omega
      have i3 : (A : Int) ≤ (cap : Int) := by omega
      have i4 : (M : Int) - (A : Int) ≥ 31 := by omega
      have i5 : A + 31 ≤ cap := by omega
      dsimp only [encC] at hy
      rw [hA] at hy
      have n1 : ¬ cap = A := by omega
      have i6 : (A : Int) + 31 ≤ (cap : Int) := by omega
      have i7 : (31 : Int) ≤ (M : Int) - (A : Int) := by omega
      have i8 : (31 : Int) ≤ ((M - A : Nat) : Int) := by omega
      have h1 : min (31 : Int) ((M - A : Nat) : Int) = 31 := by omega
      have h2 : ((A : Int) + 31).toNat = A + 31 := by omega
      have h3 : A + 31 - A = 31 := by omega
      have HT : Hid ((List.finRange m).take (j + 1) = (List.finRange m).take j ++ [⟨j, hlt⟩]) := fin_take m j hlt
      have HN : Hid (((31 * (j + 1) : Nat) : Int) = (A : Int) + 31) := by show _ = _; omega
      have HB0 := Lib.hid (hbk.trans (Keep2.of_below hbd (by have := HS.out.2.2; omega)))
      have HA := Lib.hid hA
      have HM := Lib.hid hM
      clear hA hM
      gi_wp2_with fail
      gi_region
      gi_wp2_with fail
      refine hR3.mono ?_
      rintro e w3 (⟨rfl, hJ3, hk3⟩ | ⟨rfl, hJx3⟩)
      · rw [← HT.out] at hJ3
        have hB3 := HB0.out.trans hk3
        have q3 : w3.cell? ⟨Bs + 1, 0, none⟩ = some (.int .i64 31) := (HS.out.keep hB3).2.1.cell 0 rfl
        gi_wp2_with fail
        go_roundw
        case rel => exact ⟨j + 1, by omega, by rw [HN.out], hJ3, hB3⟩
        case measure => simp [intOf]; have := HA.out; have := HM.out; omega
      · rw [← HT.out] at hJx3
        gi_wp2_with fail
        refine bodyPost_ret (results_none rfl _ _ _) rfl ?_
        exact ⟨⟨_, rfl⟩, .inr ⟨_, List.take_prefix _ _, hJx3⟩⟩
    · obtain rfl : j = m := by omega
      subst hA
      subst hM
      rw [List.take_of_length_le (by simp)] at hJk
      gi_wp2_with fail
      go_end0
      exact ⟨⟨_, rfl⟩, .inl ⟨_, rfl, hJk⟩⟩

end Go.Proofs.Ytkloijkfaooodaa
