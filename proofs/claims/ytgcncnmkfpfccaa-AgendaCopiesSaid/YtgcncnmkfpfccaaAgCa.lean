/- Copy: slices.Clone of items. -/
import Derived.Test.YtgcncnmkfpfccaaAgT
namespace Go.Proofs.Ytgcncnmkfpfccaa
open Go.RowKit
set_option linter.unusedVariables false
set_option linter.unusedSimpArgs false

def CloneEnd (e : TypeId) (size n : Nat) (xs : List Value) (w : World) (en : Ending) (w' : World) : Prop :=
  ∃ v, en = .returned v ∧ w'.ownsRow w.heap.size e size v n xs ∧ Below w.heap.size w w'
theorem cloneItem_ok (base : Nat) (v : Value) (n : Nat) (xs : List Value) (w : World) (ho : w.ownsRow base 31 3 v n xs) (hn : n ≤ 2513169434911) (hl : xs.length = n * 3) (h1 : ∀ u ∈ xs, u.oneCell' = true) :
    Calls Try.prog 35 #[v] w (CloneEnd 31 3 n xs w) := by
  obtain ⟨i0, hi, hz0, hz1, hz2⟩ := info_parts infoIt
  have heq := fun (w : World) (a : Option Addr) (n c : Nat) => Lib.run_eql_slice_nil (P := Try.prog) w 47 31 a n c 0 0 Try.underlying47
  obtain ⟨a, cap, rfl, g0, g1, g2, g3, g4⟩ := owned_parts ho
  clear ho
  cases a with
  | none =>
    obtain ⟨h0, rfl⟩ := g0 rfl
    subst h0
    have hls : xs = [] := List.length_eq_zero_iff.1 (by omega)
    subst hls
    clear g0 g1 g2 g3 g4 h1 hl hn
    go_enter Try.func35, Try.ntmps35
    go_wp2
    go_ret
    exact ⟨_, rfl, World.ownsRow_nil _ _ _ _, Below.refl _ _⟩
  | some x =>
    have hc : ∀ (o : Obj) (j : Nat) (u : Value), xs[j]? = some u → (w.alloc o).cell? (x.add j) = some u := fun o j u hu => by
      have hj := (List.getElem?_eq_some_iff.1 hu).1
      obtain ⟨b, p, e, hcell⟩ := g4 (by omega)
      cases e
      have h2 : w.cell? ⟨b, p + j, none⟩ = some (xs.getD j undef) := hcell j (by omega)
      rw [List.getD_eq_getElem?_getD, hu] at h2
      rw [add_plain]
      exact below_cell ((Below.refl w.heap.size w).alloc (Nat.le_refl _) o) h2
    have HC := Lib.hid hc
    have HL := Lib.hid hl
    have H1 := Lib.hid h1
    clear hc g0 g3 g4 hl h1
    go_enter Try.func35, Try.ntmps35
    go_wp2_with (at_builtin; refine wpList_append_own _ rfl _ _ 47 rfl w.heap.size 31 i0 _ 3 24 Try.underlying47 hi hz0 hz1 hz2 rfl (by decide) _ 0 [] rfl (World.ownsRow_lit _ #[] 0 (Nat.le_refl _) (by unfold maxLen; omega) rfl) x n cap xs rfl HL.out (HC.out _) H1.out (by unfold maxLen; omega) (by omega) (by simp) ?_; intro v' w1 hown' hgrow _)
    rw [Nat.zero_add, List.nil_append] at hown'
    have hb : Below w.heap.size w w1 := ((Below.refl _ _).alloc (Nat.le_refl _) _).grown hgrow (by simp) (fun q e => by cases e; exact Nat.le_refl _)
    go_wp2_with fail
    go_ret
    exact ⟨_, rfl, hown', hb⟩

end Go.Proofs.Ytgcncnmkfpfccaa
