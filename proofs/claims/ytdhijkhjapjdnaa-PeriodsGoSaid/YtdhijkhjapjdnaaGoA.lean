/- The statement PeriodsGo: its walk. -/
import Derived.Test.YtdhijkhjapjdnaaAll
import Derived.Test.YtdhijkhjapjdnaaRise
import Derived.Test.YtdhijkhjapjdnaaPart
namespace Go.Proofs.Ytdhijkhjapjdnaa
open Go.RowKit Go.Shelf
set_option linter.unusedVariables false
set_option linter.unusedSimpArgs false
attribute [local go_sem] Oper.semAt_some

theorem eql_func_nil' (fn : Fn) (a b : Array Value) (w : World) : (binOp .eql 43 (.func fn a b) .nilFunc).run Try.prog w = .ok (.bool false) w := by kernel_rfl

/-- The law's two boxes: n, and its answer. -/
structure Boxes (W : World) (B : Nat) (n : Int) : Prop where
  c0 : W.cell? ⟨B, 0, none⟩ = some (.int .i64 n)
  c1 : W.cell? ⟨B + 1, 0, none⟩ = some (.bool false)
  f1 : W.frozen? ⟨B + 1, 0, none⟩ = false
theorem Boxes.grown {W W' : World} {B : Nat} {n : Int} {row : Option Nat} (h : Boxes W B n) (hg : W.grownBy W' row) (h0 : row ≠ some B) (h1 : row ≠ some (B + 1)) : Boxes W' B n :=
  ⟨grown_cell hg h.c0 h0, grown_cell hg h.c1 h1, grown_frozen hg h.c1 h.f1 h1⟩

theorem leave_ret {R : Ending → World → Prop} {a : Act} {w : World} (hd : a.defers = []) (h : ∃ v, (results Try.f7 a.tmps).run Try.prog w = .ok v w ∧ R (.returned v) w) : bodyPostM Fence.wide 5 Try.prog Try.f7 R .ret a w := by
  show LeavesInM Fence.wide 5 Try.prog Try.f7 a.tmps R a.defers .returning w
  rw [hd]
  exact h

theorem two_boxes (w : World) (n : Int) : Below w.heap.size w ((w.alloc (.cells #[.int .i64 n] 3)).alloc (.cells #[.bool false] 4)) := ((Below.refl _ _).alloc (Nat.le_refl _) _).alloc (by simp) _
theorem boxes_new (w : World) (n : Int) : Boxes ((w.alloc (.cells #[.int .i64 n] 3)).alloc (.cells #[.bool false] 4)) w.heap.size n :=
  ⟨cell_alloc_l _ (cell_new_l w _ _).1, by have := (cell_new_l (w.alloc (.cells #[.int .i64 n] 3)) (.bool false) 4).1; rwa [World.size_alloc] at this, by have := (cell_new_l (w.alloc (.cells #[.int .i64 n] 3)) (.bool false) 4).2; rwa [World.size_alloc] at this⟩

set_option maxRecDepth 100000 in
set_option maxHeartbeats 2000000 in
theorem go_pre1 (size n more : Int) (h : size < 1 ∨ 400 < size) (w : World) :
    Calls Try.prog 7 #[.int .i64 size, .int .i64 n, .int .i64 more] w fun e w' => e = .returned (.bool true) ∧ Below w.heap.size w w' := by
  have hb := boxes_new w n
  have hB := two_boxes w n
  rcases h with h | h
  · refine (callsIn_wide (n := 5)).1 ?_
    refine callsIn_of_wp_marks Try.func7 rfl trivial ?_ rfl
    simp only [Try.ntmps7, List.size_toArray, List.length_cons, List.length_nil, Nat.reduceAdd, Nat.reduceSub, Array.replicate_succ, Array.replicate_zero, List.push_toArray, List.append_toArray, List.nil_append, List.cons_append]
    gi_wp2_with fail
    refine ⟨trivial, ?_⟩
    refine (callsIn_wide.2 (new_bad _ _ (Or.inl h))).mono ?_
    rintro e w1 ⟨rfl, rfl⟩
    gi_wp2_with fail
    refine ⟨trivial, ?_⟩
    refine (callsIn_wide.2 (awake_ok _)).mono ?_
    rintro e w9 ⟨rfl, hb9⟩
    have k1 := (hb9.cell (p := ⟨w.heap.size + 1, 0, none⟩) (by simp)).trans hb.c1
    have kf := (hb9.frozen (p := ⟨w.heap.size + 1, 0, none⟩) (by simp)).trans hb.f1
    gi_wp2_with fail
    refine leave_ret rfl ⟨.bool true, ?_, rfl, ?_⟩
    · simp [results, Try.f7, go_sem, k1]
    · exact Below.setCell (hB.trans (hb9.mono (by simp; omega))) (p := ⟨w.heap.size + 1, 0, none⟩) (by simp) _
  · have h' : ¬ size < 100 := by omega
    refine (callsIn_wide (n := 5)).1 ?_
    refine callsIn_of_wp_marks Try.func7 rfl trivial ?_ rfl
    simp only [Try.ntmps7, List.size_toArray, List.length_cons, List.length_nil, Nat.reduceAdd, Nat.reduceSub, Array.replicate_succ, Array.replicate_zero, List.push_toArray, List.append_toArray, List.nil_append, List.cons_append]
    gi_wp2_with fail
    refine ⟨trivial, ?_⟩
    refine (callsIn_wide.2 (new_bad _ _ (Or.inr h))).mono ?_
    rintro e w1 ⟨rfl, rfl⟩
    gi_wp2_with fail
    refine ⟨trivial, ?_⟩
    refine (callsIn_wide.2 (awake_ok _)).mono ?_
    rintro e w9 ⟨rfl, hb9⟩
    have k1 := (hb9.cell (p := ⟨w.heap.size + 1, 0, none⟩) (by simp)).trans hb.c1
    have kf := (hb9.frozen (p := ⟨w.heap.size + 1, 0, none⟩) (by simp)).trans hb.f1
    gi_wp2_with fail
    refine leave_ret rfl ⟨.bool true, ?_, rfl, ?_⟩
    · simp [results, Try.f7, go_sem, k1]
    · exact Below.setCell (hB.trans (hb9.mono (by simp; omega))) (p := ⟨w.heap.size + 1, 0, none⟩) (by simp) _

set_option maxRecDepth 100000 in
set_option maxHeartbeats 4000000 in
theorem go_pre2 (size n more : Int) (h1 : 1 ≤ size) (h2 : size ≤ 400) (h : size < 100 ∨ (100 ≤ size ∧ n < 0) ∨ (100 ≤ size ∧ 20 < n) ∨ (100 ≤ size ∧ 0 ≤ n ∧ n ≤ 20 ∧ more < 0) ∨ (100 ≤ size ∧ 0 ≤ n ∧ n ≤ 20 ∧ 20 < more)) (w : World) :
    Calls Try.prog 7 #[.int .i64 size, .int .i64 n, .int .i64 more] w fun e w' => e = .returned (.bool true) ∧ Below w.heap.size w w' := by
  have hb := boxes_new w n
  have hB := two_boxes w n
  rcases h with h | ⟨h, i⟩ | ⟨h, i⟩ | ⟨h, i, j, k⟩ | ⟨h, i, j, k⟩
  all_goals
    refine (callsIn_wide (n := 5)).1 ?_
    refine callsIn_of_wp_marks Try.func7 rfl trivial ?_ rfl
    simp only [Try.ntmps7, List.size_toArray, List.length_cons, List.length_nil, Nat.reduceAdd, Nat.reduceSub, Array.replicate_succ, Array.replicate_zero, List.push_toArray, List.append_toArray, List.nil_append, List.cons_append]
    gi_wp2_with fail
    refine ⟨trivial, ?_⟩
    refine (callsIn_wide.2 (new_ok _ _ (by omega) (by omega))).mono ?_
    rintro e w1 ⟨b, s, rfl, hP1, hb1, g1, g2⟩
    have z1 := hb1.size
    simp at z1 g1 g2
    have hx1 := hb.grown (below_grown hb1) (by simp) (by simp)
    have hB1 := hB.trans (hb1.mono (by simp; omega))
    clear hb hB
    have q0 := hx1.c0
    have q1 := hx1.c1
    have qf := hx1.f1
    gi_wp2_with fail
    refine ⟨trivial, ?_⟩
    refine (callsIn_wide.2 (awake_ok _)).mono ?_
    rintro e w9 ⟨rfl, hb9⟩
    have k1 := (hb9.cell (p := ⟨w.heap.size + 1, 0, none⟩) (by simp; omega)).trans hx1.c1
    have kf := (hb9.frozen (p := ⟨w.heap.size + 1, 0, none⟩) (by simp; omega)).trans hx1.f1
    gi_wp2_with fail
    refine leave_ret rfl ⟨.bool true, ?_, rfl, ?_⟩
    · simp [results, Try.f7, go_sem, k1]
    · exact Below.setCell (hB1.trans (hb9.mono (by omega))) (p := ⟨w.heap.size + 1, 0, none⟩) (by simp) _

theorem Per.kept {W W' : World} {b s : Nat} {size locked : Int} {row : Option Nat} (h : Per W b s size locked) (hg : W.grownBy W' row) (hr : ∀ r, row = some r → ∃ o : Obj, W.heap[r]? = some o ∧ o.isCells = false) : Per W' b s size locked :=
  ⟨cell_kept h.h0 hg hr, cell_kept h.h1 hg hr, cell_kept h.hs hg hr, (frozen_kept h.h1 hg hr).trans h.f1, h.ne⟩
theorem Boxes.kept {W W' : World} {B : Nat} {n : Int} {row : Option Nat} (h : Boxes W B n) (hg : W.grownBy W' row) (hr : ∀ r, row = some r → ∃ o : Obj, W.heap[r]? = some o ∧ o.isCells = false) : Boxes W' B n :=
  ⟨cell_kept h.c0 hg hr, cell_kept h.c1 hg hr, (frozen_kept h.c1 hg hr).trans h.f1⟩

def CopyEnd (s : Nat) (size locked : Int) (w : World) (e : Ending) (w' : World) : Prop :=
  ∃ c : Nat, e = .returned (.pointer (some ⟨c, 0, none⟩)) ∧ Per w' c s size locked ∧ Below w.heap.size w w' ∧ w.heap.size ≤ c ∧ c < w'.heap.size
theorem copy_end (b s : Nat) (size locked : Int) (w : World) (hP : Per w b s size locked) : Calls Try.prog 19 #[.pointer (some ⟨b, 0, none⟩)] w (CopyEnd s size locked w) := by
  refine (copy_ok b s size locked w hP).mono ?_
  rintro e w' ⟨rfl, rfl⟩
  have hs := hP.hs
  have hl := hP.lt.2
  have hne : w.heap.size ≠ s := by omega
  refine ⟨w.heap.size, rfl, ⟨?_, ?_, ?_, ?_, hne⟩, (Below.refl _ _).alloc (Nat.le_refl _) _, Nat.le_refl _, by simp⟩ <;> go_simp

def AllEnd (s : Nat) (size locked : Int) (w : World) (e : Ending) (w' : World) : Prop :=
  ∃ c B : Nat, e = .returned (.func (.func 23) #[] #[.pointer (some ⟨B, 0, none⟩)]) ∧ Per w' c s size locked ∧ w'.cell? ⟨B, 0, none⟩ = some (.pointer (some ⟨c, 0, none⟩)) ∧ Below w.heap.size w w' ∧ w.heap.size ≤ c ∧ c < w'.heap.size ∧ w.heap.size ≤ B ∧ B < w'.heap.size ∧ c ≠ B
theorem all_end (b s : Nat) (size locked : Int) (w : World) (hP : Per w b s size locked) : Calls Try.prog 18 #[.pointer (some ⟨b, 0, none⟩)] w (AllEnd s size locked w) := by
  refine (all_ok b s size locked w hP).mono ?_
  rintro e w' ⟨rfl, rfl⟩
  have hs := hP.hs
  have hl := hP.lt.2
  have hne : w.heap.size ≠ s := by omega
  refine ⟨w.heap.size, w.heap.size + 1, rfl, ⟨?_, ?_, ?_, ?_, hne⟩, ?_, ((Below.refl _ _).alloc (Nat.le_refl _) _).alloc (by simp) _, Nat.le_refl _, by simp; omega, by omega, by simp, by omega⟩ <;> go_simp

/-- Are the pairs that have come the right ones? -/
def Good (m : Int) (pre : List (Int × Bool)) : Prop := pre = fullP 0 m pre.length
theorem fullP_size (size size' locked : Int) (m : Nat) : fullP size locked m = fullP size' locked m := rfl
theorem Good.snoc {m : Int} {pre : List (Int × Bool)} {x : Int × Bool} (h : Good m pre) (h1 : x.1 = pre.length) (h2 : x.2 = decide ((pre.length : Int) < m)) : Good m (pre ++ [x]) := by
  unfold Good at *
  rw [List.length_append, List.length_singleton, fullP_succ, ← h]
  obtain ⟨a, b⟩ := x
  simp only at h1 h2
  rw [h1, h2]
theorem Good.bad {m : Int} {pre : List (Int × Bool)} {x : Int × Bool} (h : ¬ (x.1 = pre.length ∧ x.2 = decide ((pre.length : Int) < m))) : ¬ Good m (pre ++ [x]) := by
  intro hg
  unfold Good at hg
  rw [List.length_append, List.length_singleton, fullP_succ] at hg
  have := List.append_inj' hg rfl
  simp only [List.cons.injEq, and_true] at this
  exact h (by rw [this.2]; exact ⟨rfl, rfl⟩)
theorem good_prefix {m : Int} {mm : Nat} {size : Int} {pre : List (Int × Bool)} (h : pre <+: fullP size m mm) : Good m pre := by
  have h1 := List.prefix_iff_eq_take.1 h
  have hl : pre.length ≤ mm := by have := h.length_le; rwa [fullP_len] at this
  unfold Good
  obtain ⟨r, hr⟩ := fullP_pre size m pre.length mm hl
  have : (fullP size m mm).take pre.length = fullP size m pre.length := by
    rw [← hr, List.take_append_of_le_length (by rw [fullP_len]; exact Nat.le_refl _), List.take_of_length_le (by rw [fullP_len]; exact Nat.le_refl _)]
  rw [this] at h1
  exact h1

end Go.Proofs.Ytdhijkhjapjdnaa
