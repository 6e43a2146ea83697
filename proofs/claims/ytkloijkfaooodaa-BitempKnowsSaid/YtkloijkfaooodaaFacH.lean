/- Package facts: Fixings, Choices and their iterators; the law's fixings, choices. -/
import Derived.Test.YtkloijkfaooodaaFacG
import Derived.Test.YtkloijkfaooodaaBitE
import Derived.RangeFuncNested
import Derived.RangeFuncBound
import Derived.RangeFuncCalls
import Derived.RangeFuncLeaves
import Derived.RangeFuncBox
import Derived.Shelf.Abstract
import Derived.Shelf.RegionOpen
import Derived.OwnWalkIn
import Derived.TacticsInMore
import Derived.LoopNIn
import Derived.LoopIn
namespace Go.Proofs.Ytkloijkfaooodaa
open Go.RowKit Go.Sort Go.Shelf
set_option linter.unusedVariables false
set_option linter.unusedSimpArgs false
attribute [local go_sem] Oper.semAt_some

abbrev encVX (x : Fx) : Array Value := #[.agg (encX x).toArray]
abbrev encVH (x : Ch) : Array Value := #[.agg (encH x).toArray]

set_option maxRecDepth 100000 in
set_option maxHeartbeats 2000000 in
theorem valX_stops (n : Nat) (hn : 1 ≤ n) (n₀ Bs : Nat) (A : List Fx) (hl : A.length ≤ 1000) (w0 : World) (h0 : SeqAt w0 n₀ Bs 4 138 encX A) (hn0 : n₀ ≤ w0.heap.size) :
    SeqStopsK Fence.wide n Try.prog 84 #[.pointer (some ⟨Bs, 0, none⟩)] encVX (RowKit.Below n₀) (fun xs => xs = A) (fun pre => pre <+: A) A.length w0 := fun l J Jx W hW hJ hJx hY hJ0 => by
  have HS := Lib.hid (h0.below (hW.mono hn0))
  obtain ⟨a, cap, hB, _⟩ := HS.out
  have q1 : W.cell? ⟨Bs, 0, none⟩ = some (.slice a A.length cap) := hB.cell 0 rfl
  have HR : Hid (RecsAt W a 4 encX A) := by
    obtain ⟨a', cap', hB', hR', _⟩ := HS.out
    have := hB.symm.trans hB'
    simp only [Option.some.injEq, Obj.cells.injEq, Array.mk.injEq, List.cons.injEq, Value.slice.injEq, and_true, true_and] at this
    obtain ⟨rfl, rfl⟩ := this
    exact hR'
  have HA : Hid (∀ x, a = some x → x.block < n₀) := by
    obtain ⟨a', cap', hB', _, _, hA'⟩ := HS.out
    have := hB.symm.trans hB'
    simp only [Option.some.injEq, Obj.cells.injEq, Array.mk.injEq, List.cons.injEq, Value.slice.injEq, and_true, true_and] at this
    obtain ⟨rfl, rfl⟩ := this
    exact hA'
  have zW := hW.size
  clear hB h0
  refine callsIn_of_wp Try.func84 rfl trivial ?_ rfl
  simp only [Try.ntmps84, List.size_toArray, List.length_cons, List.length_nil, Nat.reduceAdd, Nat.reduceSub, Array.replicate_succ, Array.replicate_zero, List.push_toArray, List.append_toArray, List.nil_append, List.cons_append]
  gi_wp2_with fail
  gi_loopw [7] (fun c wr => ∃ j : Nat, j ≤ A.length ∧ c = .int .i64 (j : Int) ∧ J (A.take j) wr ∧ RowKit.Below n₀ W wr) (fun c _ => A.length - (intOf c).toNat)
  case atStart => exact ⟨0, by omega, rfl, hJ0, RowKit.Below.refl _ _⟩
  case round =>
    obtain ⟨j, hj, rfl, hJk, hbk⟩ := hrel
    have zk := hbk.size
    clear q1
    by_cases hlt : j < A.length
    · have hx := List.getElem?_eq_getElem hlt
      have HT : Hid (A.take (j + 1) = A.take j ++ [A[j]]) := List.take_succ_eq_append_getElem hlt
      obtain ⟨z, hz⟩ : ∃ z, A[j] = z := ⟨_, rfl⟩
      rw [hz] at hx HT
      have hR := HR.out.below hbk HA.out
      obtain ⟨b, o, rfl, _⟩ := hR (by omega)
      have hbk' : RowKit.Below wr.heap.size wr (wr.alloc (.cells (encX z).toArray 86)) := (RowKit.Below.refl _ _).alloc (Nat.le_refl _) _
      have hJ2 : J (A.take j) (wr.alloc (.cells (encX z).toArray 86)) := hJ _ wr _ none hJk (below_grownN hbk') (by rintro r ⟨⟩)
      obtain ⟨fn, tmps, assign, body, hy, hR3⟩ := hY _ z _ hJ2 (by rw [List.length_take]; omega)
      obtain ⟨k, d, n, m⟩ := z
      dsimp only [encVX, encX] at hy hbk' hR3
      have c0 : wr.cell? ⟨b, o + j * 4, none⟩ = some (.int .i64 k) := RecsAt.cell hR rfl hlt hx (j := 0) rfl
      have c1 : wr.cell? ⟨b, o + j * 4 + 1, none⟩ = some (.int .i64 d) := RecsAt.cell hR rfl hlt hx (j := 1) rfl
      have c2 : wr.cell? ⟨b, o + j * 4 + 2, none⟩ = some (.int .i64 n) := RecsAt.cell hR rfl hlt hx (j := 2) rfl
      have c3 : wr.cell? ⟨b, o + j * 4 + 3, none⟩ = some (.int .i64 m) := RecsAt.cell hR rfl hlt hx (j := 3) rfl
      clear hx hz hR hJ2
      gi_wp2_with fail
      refine hR3.mono ?_
      rintro e w3 (⟨rfl, hJ3, hk3⟩ | ⟨rfl, hJx3⟩)
      · rw [← HT.out] at hJ3
        have hB3 := (hbk.trans (hbk'.mono (by omega))).trans hk3
        gi_wp2_with fail
        go_roundw
        case rel => exact ⟨j + 1, by omega, by go_num, hJ3, hB3⟩
        case measure => simp [intOf]; omega
      · rw [← HT.out] at hJx3
        gi_wp2_with fail
        refine bodyPost_ret (results_none rfl _ _ _) rfl ?_
        exact ⟨⟨_, rfl⟩, .inr ⟨_, List.take_prefix _ _, hJx3⟩⟩
    · obtain rfl : j = A.length := by omega
      rw [List.take_length] at hJk
      gi_wp2_with fail
      go_end0
      exact ⟨⟨_, rfl⟩, .inl ⟨_, rfl, hJk⟩⟩
set_option maxRecDepth 100000 in
set_option maxHeartbeats 2000000 in
theorem valH_stops (n : Nat) (hn : 1 ≤ n) (n₀ Bs : Nat) (A : List Ch) (hl : A.length ≤ 1000) (w0 : World) (h0 : SeqAt w0 n₀ Bs 3 141 encH A) (hn0 : n₀ ≤ w0.heap.size) :
    SeqStopsK Fence.wide n Try.prog 88 #[.pointer (some ⟨Bs, 0, none⟩)] encVH (RowKit.Below n₀) (fun xs => xs = A) (fun pre => pre <+: A) A.length w0 := fun l J Jx W hW hJ hJx hY hJ0 => by
  have HS := Lib.hid (h0.below (hW.mono hn0))
  obtain ⟨a, cap, hB, _⟩ := HS.out
  have q1 : W.cell? ⟨Bs, 0, none⟩ = some (.slice a A.length cap) := hB.cell 0 rfl
  have HR : Hid (RecsAt W a 3 encH A) := by
    obtain ⟨a', cap', hB', hR', _⟩ := HS.out
    have := hB.symm.trans hB'
    simp only [Option.some.injEq, Obj.cells.injEq, Array.mk.injEq, List.cons.injEq, Value.slice.injEq, and_true, true_and] at this
    obtain ⟨rfl, rfl⟩ := this
    exact hR'
  have HA : Hid (∀ x, a = some x → x.block < n₀) := by
    obtain ⟨a', cap', hB', _, _, hA'⟩ := HS.out
    have := hB.symm.trans hB'
    simp only [Option.some.injEq, Obj.cells.injEq, Array.mk.injEq, List.cons.injEq, Value.slice.injEq, and_true, true_and] at this
    obtain ⟨rfl, rfl⟩ := this
    exact hA'
  have zW := hW.size
  clear hB h0
  refine callsIn_of_wp Try.func88 rfl trivial ?_ rfl
  simp only [Try.ntmps88, List.size_toArray, List.length_cons, List.length_nil, Nat.reduceAdd, Nat.reduceSub, Array.replicate_succ, Array.replicate_zero, List.push_toArray, List.append_toArray, List.nil_append, List.cons_append]
  gi_wp2_with fail
  gi_loopw [7] (fun c wr => ∃ j : Nat, j ≤ A.length ∧ c = .int .i64 (j : Int) ∧ J (A.take j) wr ∧ RowKit.Below n₀ W wr) (fun c _ => A.length - (intOf c).toNat)
  case atStart => exact ⟨0, by omega, rfl, hJ0, RowKit.Below.refl _ _⟩
  case round =>
    obtain ⟨j, hj, rfl, hJk, hbk⟩ := hrel
    have zk := hbk.size
    clear q1
    by_cases hlt : j < A.length
    · have hx := List.getElem?_eq_getElem hlt
      have HT : Hid (A.take (j + 1) = A.take j ++ [A[j]]) := List.take_succ_eq_append_getElem hlt
      obtain ⟨z, hz⟩ : ∃ z, A[j] = z := ⟨_, rfl⟩
      rw [hz] at hx HT
      have hR := HR.out.below hbk HA.out
      obtain ⟨b, o, rfl, _⟩ := hR (by omega)
      have hbk' : RowKit.Below wr.heap.size wr (wr.alloc (.cells (encH z).toArray 89)) := (RowKit.Below.refl _ _).alloc (Nat.le_refl _) _
      have hJ2 : J (A.take j) (wr.alloc (.cells (encH z).toArray 89)) := hJ _ wr _ none hJk (below_grownN hbk') (by rintro r ⟨⟩)
      obtain ⟨fn, tmps, assign, body, hy, hR3⟩ := hY _ z _ hJ2 (by rw [List.length_take]; omega)
      obtain ⟨k, d, p⟩ := z
      dsimp only [encVH, encH] at hy hbk' hR3
      have c0 : wr.cell? ⟨b, o + j * 3, none⟩ = some (.int .i64 k) := RecsAt.cell hR rfl hlt hx (j := 0) rfl
      have c1 : wr.cell? ⟨b, o + j * 3 + 1, none⟩ = some (.int .i64 d) := RecsAt.cell hR rfl hlt hx (j := 1) rfl
      have c2 : wr.cell? ⟨b, o + j * 3 + 2, none⟩ = some (.int .i64 p) := RecsAt.cell hR rfl hlt hx (j := 2) rfl
      clear hx hz hR hJ2
      gi_wp2_with fail
      refine hR3.mono ?_
      rintro e w3 (⟨rfl, hJ3, hk3⟩ | ⟨rfl, hJx3⟩)
      · rw [← HT.out] at hJ3
        have hB3 := (hbk.trans (hbk'.mono (by omega))).trans hk3
        gi_wp2_with fail
        go_roundw
        case rel => exact ⟨j + 1, by omega, by go_num, hJ3, hB3⟩
        case measure => simp [intOf]; omega
      · rw [← HT.out] at hJx3
        gi_wp2_with fail
        refine bodyPost_ret (results_none rfl _ _ _) rfl ?_
        exact ⟨⟨_, rfl⟩, .inr ⟨_, List.take_prefix _ _, hJx3⟩⟩
    · obtain rfl : j = A.length := by omega
      rw [List.take_length] at hJk
      gi_wp2_with fail
      go_end0
      exact ⟨⟨_, rfl⟩, .inl ⟨_, rfl, hJk⟩⟩

end Go.Proofs.Ytkloijkfaooodaa
