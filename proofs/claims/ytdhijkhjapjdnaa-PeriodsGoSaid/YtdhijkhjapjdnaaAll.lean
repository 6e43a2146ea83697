/- Periods.All: its iterator's contract; Copy; the calls of nil periods. -/
import Derived.Test.YtdhijkhjapjdnaaPer
import Derived.RangeFuncNested
import Derived.RangeFuncBound
import Derived.RangeFuncCalls
import Derived.RangeFuncLeaves
import Derived.Shelf.Abstract
import Derived.Shelf.RegionOpen
import Derived.OwnWalkIn
import Derived.TacticsInMore
import Derived.LoopNIn
import Derived.LoopIn
namespace Go.Proofs.Ytdhijkhjapjdnaa
open Go.RowKit Go.Shelf
set_option linter.unusedVariables false
set_option linter.unusedSimpArgs false
attribute [local go_sem] Oper.semAt_some

theorem copy_ok (b s : Nat) (size locked : Int) (w : World) (hP : Per w b s size locked) :
    Calls Try.prog 19 #[.pointer (some ⟨b, 0, none⟩)] w fun e w' => e = .returned (.pointer (some ⟨w.heap.size, 0, none⟩)) ∧ w' = w.alloc (.cells #[.pointer (some ⟨s, 0, none⟩), .int .i64 locked] 51) := by
  obtain ⟨q0, q1, qs, qf, qn⟩ := hP
  go_enter Try.func19, Try.ntmps19
  go_wp2
  go_ret
  exact ⟨rfl, rfl⟩

theorem copy_nil (w : World) :
    Calls Try.prog 19 #[.pointer none] w fun e w' => e = .returned (.pointer none) ∧ w = w' := by
  go_enter Try.func19, Try.ntmps19
  go_wp2
  go_ret
  exact ⟨rfl, rfl⟩

theorem all_ok (b s : Nat) (size locked : Int) (w : World) (hP : Per w b s size locked) :
    Calls Try.prog 18 #[.pointer (some ⟨b, 0, none⟩)] w fun e w' => e = .returned (.func (.func 23) #[] #[.pointer (some ⟨w.heap.size + 1, 0, none⟩)]) ∧
      w' = (w.alloc (.cells #[.pointer (some ⟨s, 0, none⟩), .int .i64 locked] 51)).alloc (.cells #[.pointer (some ⟨w.heap.size, 0, none⟩)] 22) := by
  go_enter Try.func18, Try.ntmps18
  go_wp2_with (go_at_call 19; refine (copy_ok b s size locked _ hP).mono ?_; rintro e w' ⟨rfl, rfl⟩)
  go_ret
  exact ⟨rfl, rfl⟩

theorem all_nil (w : World) :
    Calls Try.prog 18 #[.pointer none] w fun e w' => e = .returned (.func (.func 23) #[] #[.pointer (some ⟨w.heap.size, 0, none⟩)]) ∧
      w' = w.alloc (.cells #[.pointer none] 22) := by
  go_enter Try.func18, Try.ntmps18
  go_wp2_with (go_at_call 19; refine (copy_nil _).mono ?_; rintro e w' ⟨rfl, rfl⟩)
  go_ret
  exact ⟨rfl, rfl⟩

/-- What goes through the iterator: each period and whether it is locked. -/
def fullP (size locked : Int) (m : Nat) : List (Int × Bool) := (List.range m).map fun i : Nat => ((i : Int), decide ((i : Int) < locked))
theorem fullP_succ (size locked : Int) (m : Nat) : fullP size locked (m + 1) = fullP size locked m ++ [((m : Int), decide ((m : Int) < locked))] := by
  simp [fullP, List.range_succ]
theorem fullP_len (size locked : Int) (m : Nat) : (fullP size locked m).length = m := by simp [fullP]
theorem fullP_pre (size locked : Int) (m k : Nat) (h : m ≤ k) : fullP size locked m <+: fullP size locked k := by
  induction k with
  | zero => obtain rfl : m = 0 := by omega
            exact List.prefix_refl _
  | succ k ih =>
    by_cases e : m = k + 1
    · subst e; exact List.prefix_refl _
    · exact (ih (by omega)).trans ⟨_, (fullP_succ size locked k).symm⟩
abbrev encP (x : Int × Bool) : Array Value := #[.int .i64 x.1, .bool x.2]

theorem cell_new_l (W : World) (v : Value) (t : TypeId) : (W.alloc (.cells #[v] t)).cell? ⟨W.heap.size, 0, none⟩ = some v ∧ (W.alloc (.cells #[v] t)).frozen? ⟨W.heap.size, 0, none⟩ = false :=
  ⟨by rw [World.cell?_alloc_new]; rfl, World.frozen?_alloc_new _ _ _ _⟩
theorem cell_alloc_l {W : World} {a : Addr} {v : Value} (o : Obj) (h : W.cell? a = some v) : (W.alloc o).cell? a = some v := cell_kept h (World.grownBy_alloc W o none) (fun r e => by cases e)
theorem frozen_alloc_l {W : World} {a : Addr} {v : Value} (o : Obj) (h : W.cell? a = some v) (hf : W.frozen? a = false) : (W.alloc o).frozen? a = false := (frozen_kept h (World.grownBy_alloc W o none) (fun r e => by cases e)).trans hf

theorem below_grown {w w' : World} (h : Below w.heap.size w w') : w.grownBy w' none := ⟨h.os, h.tape, h.output, h.size, fun k hk _ => h.block k hk⟩

set_option maxRecDepth 100000 in
set_option maxHeartbeats 1000000 in
theorem all_stops (n : Nat) (hn : 1 ≤ n) (B b s n₀ : Nat) (size locked : Int) (m : Nat) (hm : lastP size + 1 = m) (h1 : 1 ≤ size) (w0 : World) (hP : Per w0 b s size locked) (hB : w0.cell? ⟨B, 0, none⟩ = some (.pointer (some ⟨b, 0, none⟩)))
    (hn0 : n₀ ≤ w0.heap.size) (hb0 : b < n₀) (hs0 : s < n₀) (hB0 : B < n₀) (hm1 : m ≤ 100000) :
    SeqStopsK Fence.wide n Try.prog 23 #[.pointer (some ⟨B, 0, none⟩)] encP (Below n₀) (fun xs => xs = fullP size locked m) (fun pre => pre <+: fullP size locked m) m w0 := fun l J Jx W hW hJ hJx hY h0 => by
  have HM := Lib.hid hm
  have hl0 : lastP size ≤ m := by omega
  have hl1 : 0 ≤ lastP size + 1 := by omega
  clear hm
  have hPW := hP.below hW hP.lt.1 hP.lt.2
  have hBW : W.cell? ⟨B, 0, none⟩ = some (.pointer (some ⟨b, 0, none⟩)) := (hW.cell (p := ⟨B, 0, none⟩) (by simp; omega)).trans hB
  have zW := hW.size
  refine callsIn_of_wp Try.func23 rfl trivial ?_ rfl
  simp only [Try.ntmps23, List.size_toArray, List.length_cons, List.length_nil, Nat.reduceAdd, Nat.reduceSub, Array.replicate_succ, Array.replicate_zero, List.push_toArray, List.append_toArray, List.nil_append, List.cons_append]
  gi_wp2_with (refine ⟨trivial, ?_⟩; gi_at_call 13; refine (callsIn_wide.2 (last_ok b s size locked _ hPW h1)).mono ?_; rintro e w1 ⟨rfl, hb1⟩; have hB1 : w1.cell? ⟨B, 0, none⟩ = some (.pointer (some ⟨b, 0, none⟩)) := (hb1.cell (p := ⟨B, 0, none⟩) (by simp; omega)).trans hBW)
  have hP1 := hPW.after hb1
  have z1 := hb1.size
  have hJ1 : J [] w1 := hJ [] W w1 none h0 (below_grown hb1) (by rintro r ⟨⟩)
  gi_loopw [12] (fun i wr => ∃ k : Nat, k ≤ m ∧ i = .int .i64 k ∧ J (fullP size locked k) wr ∧ Per wr b s size locked ∧ wr.cell? ⟨B, 0, none⟩ = some (.pointer (some ⟨b, 0, none⟩)) ∧ n₀ ≤ wr.heap.size ∧ W.heap.size ≤ wr.heap.size) (fun i _ => m - (intOf i).toNat)
  case atStart => exact ⟨0, Nat.zero_le _, rfl, hJ1, hP1, hB1, by omega, by omega⟩
  case round =>
    obtain ⟨k, hk, rfl, hJk, hPk, hBk, zk, zk'⟩ := hrel
    clear hP1 hB1 hJ1 hBW hPW
    by_cases hlt : k < m
    · have hlt' : (k : Int) ≤ lastP size := by have := HM.out; omega
      gi_wp2_with fail
      refine ⟨trivial, ?_⟩
      refine (callsIn_wide.2 (locked_ok b s size locked _ _ hPk h1 (by omega) hlt')).mono ?_
      rintro e w2 ⟨rfl, hb2⟩
      have hP2 := hPk.after hb2
      have z2 := hb2.size
      have hB2 : w2.cell? ⟨B, 0, none⟩ = some (.pointer (some ⟨b, 0, none⟩)) := (hb2.cell (p := ⟨B, 0, none⟩) (by simp; omega)).trans hBk
      have hJ2 : J (fullP size locked k) w2 := hJ _ wr w2 none hJk (below_grown hb2) (by rintro r ⟨⟩)
      obtain ⟨fn, tmps, assign, body, hy, hR⟩ := hY _ ((k : Int), decide ((k : Int) < locked)) w2 hJ2 (by rw [fullP_len]; exact hlt)
      dsimp only [encP] at hy
      gi_wp2_with fail
      refine hR.mono ?_
      rintro e w3 (⟨rfl, hJ3, hk3⟩ | ⟨rfl, hJx3⟩)
      · rw [← fullP_succ size locked k] at hJ3
        have hP3 := hP2.below hk3 hb0 hs0
        have hB3 : w3.cell? ⟨B, 0, none⟩ = some (.pointer (some ⟨b, 0, none⟩)) := (hk3.cell (p := ⟨B, 0, none⟩) hB0).trans hB2
        have z3 := hk3.size
        gi_wp2_with fail
        go_roundw
        case rel => exact ⟨k + 1, by omega, by go_num, hJ3, hP3, hB3, by omega, by omega⟩
        case measure => simp [intOf]; omega
      · rw [← fullP_succ size locked k] at hJx3
        gi_wp2_with fail
        refine bodyPost_ret (results_none rfl _ _ _) rfl ?_
        exact ⟨⟨_, rfl⟩, .inr ⟨_, fullP_pre size locked (k + 1) m (by omega), hJx3⟩⟩
    · obtain rfl : k = m := by omega
      have hlt' : lastP size < (k : Int) := by have := HM.out; omega
      gi_wp2_with fail
      go_end0
      exact ⟨⟨_, rfl⟩, .inl ⟨_, rfl, hJk⟩⟩

end Go.Proofs.Ytdhijkhjapjdnaa
