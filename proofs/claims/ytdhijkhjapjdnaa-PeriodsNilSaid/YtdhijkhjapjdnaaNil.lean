/- The statement PeriodsNil: its walk. -/
import Derived.Test.YtdhijkhjapjdnaaAll
namespace Go.Proofs.Ytdhijkhjapjdnaa
open Go.RowKit Go.Shelf
set_option linter.unusedVariables false
set_option linter.unusedSimpArgs false
attribute [local go_sem] Oper.semAt_some

section
variable (a c : Int) (w : World)
theorem nil_of : Calls Try.prog 11 #[.pointer none, .int .i64 a] w fun e w' => e = .returned (.tuple #[.int .i64 0, .int .i64 2]) ∧ w = w' := by
  go_enter Try.func11, Try.ntmps11
  go_wp2
  go_ret2
  exact ⟨rfl, rfl⟩
theorem nil_check : Calls Try.prog 21 #[.pointer none, .int .i64 a] w fun e w' => e = .returned (.int .i64 2) ∧ w = w' := by
  go_enter Try.func21, Try.ntmps21
  go_wp2
  go_ret
  exact ⟨rfl, rfl⟩
theorem nil_last : Calls Try.prog 13 #[.pointer none] w fun e w' => e = .returned (.int .i64 0) ∧ w = w' := by
  go_enter Try.func13, Try.ntmps13
  go_wp2
  go_ret
  exact ⟨rfl, rfl⟩
theorem nil_earliest : Calls Try.prog 16 #[.pointer none] w fun e w' => e = .returned (.tuple #[.int .i64 0, .int .i64 2]) ∧ w = w' := by
  go_enter Try.func16, Try.ntmps16
  go_wp2
  go_ret2
  exact ⟨rfl, rfl⟩
theorem nil_span : Calls Try.prog 12 #[.pointer none, .int .i64 a] w fun e w' => e = .returned (.tuple #[.int .i64 0, .int .i64 0, .int .i64 2]) ∧ w = w' := by
  go_enter Try.func12, Try.ntmps12
  go_wp2
  go_ret3
  exact ⟨rfl, rfl⟩
theorem nil_book : Calls Try.prog 15 #[.pointer none, .int .i64 a] w fun e w' => e = .returned (.tuple #[.int .i64 0, .int .i64 2]) ∧ w = w' := by
  go_enter Try.func15, Try.ntmps15
  go_wp2
  go_ret2
  exact ⟨rfl, rfl⟩
theorem nil_lock : Calls Try.prog 14 #[.pointer none, .int .i64 a, .int .i64 c] w fun e w' => e = .returned (.int .i64 2) ∧ w = w' := by
  go_enter Try.func14, Try.ntmps14
  go_wp2_with (go_at_call 12; refine (nil_span _ _).mono ?_; rintro e w' ⟨rfl, rfl⟩)
  go_ret
  exact ⟨rfl, rfl⟩
theorem nil_locked : Calls Try.prog 17 #[.pointer none, .int .i64 a] w fun e w' => e = .returned (.bool false) ∧ w = w' := by
  go_enter Try.func17, Try.ntmps17
  go_wp2
  go_ret
  exact ⟨rfl, rfl⟩
end

theorem nil_stops (n : Nat) (hn : 1 ≤ n) (B n₀ : Nat) (w0 : World) (hB : w0.cell? ⟨B, 0, none⟩ = some (.pointer none)) (hB0 : B < w0.heap.size) :
    SeqStopsK Fence.wide n Try.prog 23 #[.pointer (some ⟨B, 0, none⟩)] encP (Below n₀) (fun xs => xs = []) (fun pre => False) 0 w0 := fun l J Jx W hW hJ hJx hY h0 => by
  have hBW : W.cell? ⟨B, 0, none⟩ = some (.pointer none) := (hW.cell (p := ⟨B, 0, none⟩) (by simp; omega)).trans hB
  refine callsIn_of_wp Try.func23 rfl trivial ?_ rfl
  simp only [Try.ntmps23, List.size_toArray, List.length_cons, List.length_nil, Nat.reduceAdd, Nat.reduceSub, Array.replicate_succ, Array.replicate_zero, List.push_toArray, List.append_toArray, List.nil_append, List.cons_append]
  gi_wp2
  refine bodyPost_ret (results_none rfl _ _ _) rfl ?_
  exact ⟨⟨_, rfl⟩, .inl ⟨_, rfl, h0⟩⟩

theorem eql_func_nil (fn : Fn) (a b : Array Value) (w : World) : (binOp .eql 43 (.func fn a b) .nilFunc).run Try.prog w = .ok (.bool false) w := by kernel_rfl

set_option maxRecDepth 100000 in
set_option maxHeartbeats 2000000 in
theorem walk_PeriodsNil (w : World) (day : Int) (_ : (Lit.int .i64 day).wf = true) (clock : Int) (_ : (Lit.int .i64 clock).wf = true) :
    Calls Try.prog 8 #[.int .i64 day, .int .i64 clock] w fun e w' => e = .returned (.bool true) ∧ Below w.heap.size w w' := by
  have heq := eql_func_nil
  refine (callsIn_wide (n := 5)).1 ?_
  refine callsIn_of_wp_marks Try.func8 rfl trivial ?_ rfl
  simp only [Try.ntmps8, List.size_toArray, List.length_cons, List.length_nil, Nat.reduceAdd, Nat.reduceSub, Array.replicate_succ, Array.replicate_zero, List.push_toArray, List.append_toArray, List.nil_append, List.cons_append]
  gi_wp2_with (refine ⟨trivial, ?_⟩; first
    | (gi_at_call 11; refine (callsIn_wide.2 (nil_of _ _)).mono ?_; rintro e w' ⟨rfl, rfl⟩)
    | (gi_at_call 12; refine (callsIn_wide.2 (nil_span _ _)).mono ?_; rintro e w' ⟨rfl, rfl⟩)
    | (gi_at_call 16; refine (callsIn_wide.2 (nil_earliest _)).mono ?_; rintro e w' ⟨rfl, rfl⟩)
    | (gi_at_call 15; refine (callsIn_wide.2 (nil_book _ _)).mono ?_; rintro e w' ⟨rfl, rfl⟩)
    | (gi_at_call 18; refine (callsIn_wide.2 (all_nil _)).mono ?_; rintro e w' ⟨rfl, rfl⟩))
  have c0 := cell_new_l w (.pointer none) 22
  have c1 := cell_new_l (w.alloc (.cells #[.pointer none] 22)) (.int .i64 0) 3
  simp only [World.size_alloc] at c1
  have hB0 : Below w.heap.size w ((w.alloc (.cells #[.pointer none] 22)).alloc (.cells #[.int .i64 0] 3)) := ((Below.refl _ w).alloc (Nat.le_refl _) _).alloc (by simp) _
  refine wpIn_rangeFunc_ownF rfl (by omega) (gf := 23) (lb := #[.pointer (some ⟨w.heap.size, 0, none⟩)]) rfl trivial (enters_of Try.func23 (by kernel_rfl) rfl)
    (nil_stops _ (by omega) w.heap.size w.heap.size _ (cell_alloc_l _ c0.1) (by simp; omega)) belowK_t (belowK_b (by simp; omega)) (Below.refl _ _) (fun _ => rfl)
    (fun pre W => (W.cell? ⟨w.heap.size + 1, 0, none⟩ = some (.int .i64 (pre.length : Int)) ∧ W.frozen? ⟨w.heap.size + 1, 0, none⟩ = false) ∧ Below w.heap.size w W)
    (fun _ _ _ => False)
    (OwnFrom.and (Own.from (fun s A B row hs hg hr => ⟨cell_kept hs.1 hg hr, (frozen_kept hs.1 hg hr).trans hs.2⟩) _) (ownFrom_below (Nat.le_refl _) (by simp; omega)))
    (fun _ _ _ _ _ hs _ _ => hs)
    ⟨⟨c1.1, c1.2⟩, hB0⟩
    ?a1 ?assign ?body ?done ?stop
  case assign =>
    intro l x W K hK
    have hK' := Lib.hid hK
    clear hK
    gi_wp2
    exact hK'.out
  case body =>
    rintro l pre x W _ h
    omega
  case done =>
    rintro D ys W hD rfl ⟨⟨hc, hf⟩, hB⟩ hK
    simp only [List.length_nil] at hc
    gi_wp2_with (refine ⟨trivial, ?_⟩; first
      | (gi_at_call 14; refine (callsIn_wide.2 (nil_lock _ _ _)).mono ?_; rintro e w' ⟨rfl, rfl⟩)
      | (gi_at_call 17; refine (callsIn_wide.2 (nil_locked _ _)).mono ?_; rintro e w' ⟨rfl, rfl⟩)
      | (gi_at_call 13; refine (callsIn_wide.2 (nil_last _)).mono ?_; rintro e w' ⟨rfl, rfl⟩)
      | (gi_at_call 19; refine (callsIn_wide.2 (copy_nil _)).mono ?_; rintro e w' ⟨rfl, rfl⟩)
      | (gi_at_call 10; refine (callsIn_wide.2 (awake_ok _)).mono ?_; rintro e w9 ⟨rfl, hb9⟩))
    have hlt : D < W.heap.size := (Array.getElem?_eq_some_iff.1 hK).1
    have hK9 : w9.heap[D]? = some (.deferred (some [])) := (hb9.block D hlt).trans hK
    refine ⟨by simp, .inl ⟨_, _, rfl, run_takeDeferred hK9, ?_⟩⟩
    exact ⟨_, results_tmp rfl _ _ _, rfl, (hB.trans (hb9.mono hB.size)).trans (belowK_b (w := w) (Nat.le_refl _) w9 D _ _ (by simp at hD; omega) hK9 rfl rfl)⟩
  case stop =>
    rintro D c pre W _ h _ _
    exact h.elim

end Go.Proofs.Ytdhijkhjapjdnaa
