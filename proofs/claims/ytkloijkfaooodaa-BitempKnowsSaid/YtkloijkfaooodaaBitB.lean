/- Package bitemp: == of places and versions; keys; slices.Clone; a store in memory. -/
import Derived.Test.YtkloijkfaooodaaBitA
import Derived.Test.YtkloijkfaooodaaFacDa

namespace Go.Proofs.Ytkloijkfaooodaa
open Go.RowKit
set_option linter.unusedVariables false
set_option linter.unusedSimpArgs false

theorem intU : Try.prog.underlying 3 = some (.int .i64) := by kernel_rfl
theorem boolU : Try.prog.underlying 4 = some .bool := by kernel_rfl
theorem place_eqIn (c : Bool) (k d : Int) (c' : Bool) (k' d' : Int) (w : World) : (Op.equalIn 10000 93 (.agg #[.bool c, .int .i64 k, .int .i64 d]) (.agg #[.bool c', .int .i64 k', .int .i64 d'])).run Try.prog w = .ok (decide (((c, k, d) : PK) = (c', k', d'))) w := by
  rw [run_equalIn_agg w 9999 _ _ _ (by unfold Program.fieldsOf; rw [Try.underlying93]) (by kernel_rfl)]
  unfold Program.fieldsOf
  rw [Try.underlying93]
  have q0 : ∀ (x : Bool) (y z : Int), (part 4 #[.bool x, .int .i64 y, .int .i64 z] 0).run Try.prog w = .ok (.bool x) w := fun x y z => by kernel_rfl
  have q1 : ∀ (x : Bool) (y z : Int), (part 3 #[.bool x, .int .i64 y, .int .i64 z] 1).run Try.prog w = .ok (.int .i64 y) w := fun x y z => by kernel_rfl
  have q2 : ∀ (x : Bool) (y z : Int), (part 3 #[.bool x, .int .i64 y, .int .i64 z] 2).run Try.prog w = .ok (.int .i64 z) w := fun x y z => by kernel_rfl
  have qb : ∀ x y : Bool, (Op.equalIn 9999 4 (.bool x) (.bool y)).run Try.prog w = .ok (x == y) w := fun x y => by cases x <;> cases y <;> kernel_rfl
  by_cases e1 : c = c' <;> by_cases e2 : k = k' <;> by_cases e3 : d = d' <;>
    simp [Op.eqFields, Sem.run_bind, q0, q1, q2, qb, run_equalIn_int w 9998 _ .i64 .i64 _ _ intU, e1, e2, e3]
theorem keyPk : KeyLike Try.prog 93 OkPk := KeyLike.struct Try.underlying93
  (fun w em v h => by obtain ⟨p, rfl⟩ := h; unfold pkV; cases em <;> kernel_rfl)
  (fun w x y hx hy => by
    obtain ⟨⟨c, k, d⟩, rfl⟩ := hx
    obtain ⟨⟨c', k', d'⟩, rfl⟩ := hy
    refine ⟨decide (((c, k, d) : PK) = (c', k', d')), place_eqIn c k d c' k' d' w, ?_⟩
    rw [decide_eq_true_iff]
    exact ⟨fun h => by rw [h], pkV_inj⟩)
  (fun v h => by obtain ⟨p, rfl⟩ := h; simp [pkV, Instr.sameBits])

theorem infoInt : (Try.prog.info? 3).map (fun i => (i.zero, i.size, i.bytes)) = some (some (.int .i64 0), 1, 8) := by kernel_rfl
theorem infoVer : (Try.prog.info? 26).map (fun i => (i.zero, i.size, i.bytes)) = some (some (.agg #[.int .i64 0, .bool false, .int .i64 0, .int .i64 0, .int .i64 0, .int .i64 0, .int .i64 0]), 7, 56) := by kernel_rfl

def CloneEnd (e : TypeId) (size n : Nat) (xs : List Value) (w : World) (en : Ending) (w' : World) : Prop :=
  ∃ v, en = .returned v ∧ w'.ownsRow w.heap.size e size v n xs ∧ Below w.heap.size w w'
theorem cloneInt_ok (base : Nat) (v : Value) (n : Nat) (xs : List Value) (w : World) (ho : w.ownsRow base 3 1 v n xs) (hn : n ≤ 2513169434911) (hl : xs.length = n * 1) (h1 : ∀ u ∈ xs, u.oneCell' = true) :
    Calls Try.prog 71 #[v] w (CloneEnd 3 1 n xs w) := by
  obtain ⟨i0, hi, hz0, hz1, hz2⟩ := info_parts infoInt
  have heq := fun (w : World) (a : Option Addr) (n c : Nat) => Lib.run_eql_slice_nil (P := Try.prog) w 101 3 a n c 0 0 Try.underlying101
  obtain ⟨a, cap, rfl, g0, g1, g2, g3, g4⟩ := owned_parts ho
  clear ho
  cases a with
  | none =>
    obtain ⟨h0, rfl⟩ := g0 rfl
    subst h0
    have hls : xs = [] := List.length_eq_zero_iff.1 (by omega)
    subst hls
    clear g0 g1 g2 g3 g4 h1 hl hn
    go_enter Try.func71, Try.ntmps71
    go_wp2
    go_ret
    exact ⟨_, rfl, World.ownsRow_nil _ _ _ _, Below.refl _ _⟩
  | some x =>
    have hc : ∀ (o : Obj) (j : Nat) (u : Value), xs[j]? = some u → (w.alloc o).cell? (x.add j) = some u := fun o j u hu => by
      have hj := (List.getElem?_eq_some_iff.1 hu).1
      obtain ⟨b, p, e, hcell⟩ := g4 (by omega)
      cases e
      have h2 : w.cell? ⟨b, p + j, none⟩ = some (xs.getD j undef) := hcell j (by omega)
      rw [List.getD_eq_getElem?_getD, hu] at h2
      rw [add_plain]
      exact below_cell ((Below.refl w.heap.size w).alloc (Nat.le_refl _) o) h2
    have HC := Lib.hid hc
    have HL := Lib.hid hl
    have H1 := Lib.hid h1
    clear hc g0 g3 g4 hl h1
    go_enter Try.func71, Try.ntmps71
    go_wp2_with (at_builtin; refine wpList_append_own _ rfl _ _ 101 rfl w.heap.size 3 i0 _ 1 8 Try.underlying101 hi hz0 hz1 hz2 rfl (by decide) _ 0 [] rfl (World.ownsRow_lit _ #[] 0 (Nat.le_refl _) (by unfold maxLen; omega) rfl) x n cap xs rfl HL.out (HC.out _) H1.out (by unfold maxLen; omega) (by omega) (by simp) ?_; intro v' w1 hown' hgrow _)
    rw [Nat.zero_add, List.nil_append] at hown'
    have hb : Below w.heap.size w w1 := ((Below.refl _ _).alloc (Nat.le_refl _) _).grown hgrow (by simp) (fun q e => by cases e; exact Nat.le_refl _)
    go_wp2_with fail
    go_ret
    exact ⟨_, rfl, hown', hb⟩
theorem cloneVer_ok (base : Nat) (v : Value) (n : Nat) (xs : List Value) (w : World) (ho : w.ownsRow base 26 7 v n xs) (hn : n ≤ 2513169434911) (hl : xs.length = n * 7) (h1 : ∀ u ∈ xs, u.oneCell' = true) :
    Calls Try.prog 53 #[v] w (CloneEnd 26 7 n xs w) := by
  obtain ⟨i0, hi, hz0, hz1, hz2⟩ := info_parts infoVer
  have heq := fun (w : World) (a : Option Addr) (n c : Nat) => Lib.run_eql_slice_nil (P := Try.prog) w 35 26 a n c 0 0 Try.underlying35
  obtain ⟨a, cap, rfl, g0, g1, g2, g3, g4⟩ := owned_parts ho
  clear ho
  cases a with
  | none =>
    obtain ⟨h0, rfl⟩ := g0 rfl
    subst h0
    have hls : xs = [] := List.length_eq_zero_iff.1 (by omega)
    subst hls
    clear g0 g1 g2 g3 g4 h1 hl hn
    go_enter Try.func53, Try.ntmps53
    go_wp2
    go_ret
    exact ⟨_, rfl, World.ownsRow_nil _ _ _ _, Below.refl _ _⟩
  | some x =>
    have hc : ∀ (o : Obj) (j : Nat) (u : Value), xs[j]? = some u → (w.alloc o).cell? (x.add j) = some u := fun o j u hu => by
      have hj := (List.getElem?_eq_some_iff.1 hu).1
      obtain ⟨b, p, e, hcell⟩ := g4 (by omega)
      cases e
      have h2 : w.cell? ⟨b, p + j, none⟩ = some (xs.getD j undef) := hcell j (by omega)
      rw [List.getD_eq_getElem?_getD, hu] at h2
      rw [add_plain]
      exact below_cell ((Below.refl w.heap.size w).alloc (Nat.le_refl _) o) h2
    have HC := Lib.hid hc
    have HL := Lib.hid hl
    have H1 := Lib.hid h1
    clear hc g0 g3 g4 hl h1
    go_enter Try.func53, Try.ntmps53
    go_wp2_with (at_builtin; refine wpList_append_own _ rfl _ _ 35 rfl w.heap.size 26 i0 _ 7 56 Try.underlying35 hi hz0 hz1 hz2 rfl (by decide) _ 0 [] rfl (World.ownsRow_lit _ #[] 0 (Nat.le_refl _) (by unfold maxLen; omega) rfl) x n cap xs rfl HL.out (HC.out _) H1.out (by unfold maxLen; omega) (by omega) (by simp) ?_; intro v' w1 hown' hgrow _)
    rw [Nat.zero_add, List.nil_append] at hown'
    have hb : Below w.heap.size w w1 := ((Below.refl _ _).alloc (Nat.le_refl _) _).grown hgrow (by simp) (fun q e => by cases e; exact Nat.le_refl _)
    go_wp2_with fail
    go_ret
    exact ⟨_, rfl, hown', hb⟩

end Go.Proofs.Ytkloijkfaooodaa
