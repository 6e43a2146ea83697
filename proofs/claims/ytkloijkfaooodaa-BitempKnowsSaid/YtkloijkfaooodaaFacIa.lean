/- Package facts: Fixings, Choices. -/
import Derived.Test.YtkloijkfaooodaaFacH
namespace Go.Proofs.Ytkloijkfaooodaa
open Go.RowKit Go.Sort Go.Shelf
set_option linter.unusedVariables false
set_option linter.unusedSimpArgs false
attribute [local go_sem] Oper.semAt_some

def SeqXEnd (w : World) (A : List Fx) (e : Ending) (w' : World) : Prop :=
  ∃ Bs, e = .returned (.func (.func 84) #[] #[.pointer (some ⟨Bs, 0, none⟩)]) ∧ SeqAt w' w'.heap.size Bs 4 138 encX A ∧ RowKit.Below w.heap.size w w' ∧ w.heap.size ≤ Bs
theorem valuesX_ok (a : Option Addr) (n cap : Nat) (w : World) : Calls Try.prog 65 #[.slice a n cap] w fun e w' => e = .returned (.func (.func 84) #[] #[.pointer (some ⟨w.heap.size, 0, none⟩)]) ∧ w' = w.alloc (.cells #[.slice a n cap] 138) := by
  go_enter Try.func65, Try.ntmps65
  go_wp2_with fail
  go_ret
  exact ⟨rfl, rfl⟩

set_option maxHeartbeats 1000000 in
theorem seqX_ok (p ba bc : Nat) (A : List Fx) (C : List Ch) (w : World) (h : FactsAt w p ba bc A C) (hl : A.length ≤ 1000) :
    Calls Try.prog 51 #[.pointer (some ⟨p, 0, none⟩)] w (SeqXEnd w A) := by
  have c0 : w.cell? ⟨p, 0, none⟩ = some (.map (some ba)) := h.blk.cell 0 rfl
  have c1 : w.cell? ⟨p, 1, none⟩ = some (.map (some bc)) := h.blk.cell 1 rfl
  have HC := Lib.hid (allX_ok _ A w h.ma h.ra hl)
  clear h
  go_enter Try.func51, Try.ntmps51
  go_wp2_with fail
  with_reducible refine HC.out.mono ?_
  rintro e w1 ⟨a, cap, rfl, hR, hb1, hax⟩
  have HR := Lib.hid hR
  clear hR
  go_wp2_with fail
  with_reducible refine (valuesX_ok _ _ _ _).mono ?_
  rintro e w2 ⟨rfl, hw2⟩
  have HW := Lib.hid hw2
  clear hw2
  go_wp2_with fail
  go_ret
  obtain rfl := HW.out
  have bb : RowKit.Below w1.heap.size w1 (w1.alloc (.cells #[.slice a A.length cap] 138)) := (RowKit.Below.refl _ _).alloc (Nat.le_refl _) _
  exact ⟨w1.heap.size, rfl, ⟨a, cap, Blk.new _ _ _, HR.out.after bb, by simp, fun x e => by have := hax x e; simp; omega⟩, hb1.trans (bb.mono hb1.size), hb1.size⟩

theorem seqX_nil (w : World) : Calls Try.prog 51 #[.pointer none] w (SeqXEnd w []) := by
  go_enter Try.func51, Try.ntmps51
  go_wp2_with fail
  with_reducible refine (valuesX_ok _ _ _ _).mono ?_
  rintro e w2 ⟨rfl, hw2⟩
  have HW := Lib.hid hw2
  clear hw2
  go_wp2_with fail
  go_ret
  obtain rfl := HW.out
  exact ⟨w.heap.size, rfl, ⟨none, 0, Blk.new _ _ _, RowsAt.nil _ _ _ _, by simp, by simp⟩, (RowKit.Below.refl _ _).alloc (Nat.le_refl _) _, Nat.le_refl _⟩

theorem eqlfX (fn : Fn) (a b : Array Value) (w : World) : (binOp .eql 112 (.func fn a b) .nilFunc).run Try.prog w = .ok (.bool false) w := by kernel_rfl
def SeqHEnd (w : World) (A : List Ch) (e : Ending) (w' : World) : Prop :=
  ∃ Bs, e = .returned (.func (.func 88) #[] #[.pointer (some ⟨Bs, 0, none⟩)]) ∧ SeqAt w' w'.heap.size Bs 3 141 encH A ∧ RowKit.Below w.heap.size w w' ∧ w.heap.size ≤ Bs
theorem valuesH_ok (a : Option Addr) (n cap : Nat) (w : World) : Calls Try.prog 67 #[.slice a n cap] w fun e w' => e = .returned (.func (.func 88) #[] #[.pointer (some ⟨w.heap.size, 0, none⟩)]) ∧ w' = w.alloc (.cells #[.slice a n cap] 141) := by
  go_enter Try.func67, Try.ntmps67
  go_wp2_with fail
  go_ret
  exact ⟨rfl, rfl⟩

set_option maxHeartbeats 1000000 in
theorem seqH_ok (p ba bc : Nat) (A : List Fx) (C : List Ch) (w : World) (h : FactsAt w p ba bc A C) (hl : C.length ≤ 1000) :
    Calls Try.prog 52 #[.pointer (some ⟨p, 0, none⟩)] w (SeqHEnd w C) := by
  have c0 : w.cell? ⟨p, 0, none⟩ = some (.map (some ba)) := h.blk.cell 0 rfl
  have c1 : w.cell? ⟨p, 1, none⟩ = some (.map (some bc)) := h.blk.cell 1 rfl
  have HC := Lib.hid (allH_ok _ C w h.mc h.rc hl)
  clear h
  go_enter Try.func52, Try.ntmps52
  go_wp2_with fail
  with_reducible refine HC.out.mono ?_
  rintro e w1 ⟨a, cap, rfl, hR, hb1, hax⟩
  have HR := Lib.hid hR
  clear hR
  go_wp2_with fail
  with_reducible refine (valuesH_ok _ _ _ _).mono ?_
  rintro e w2 ⟨rfl, hw2⟩
  have HW := Lib.hid hw2
  clear hw2
  go_wp2_with fail
  go_ret
  obtain rfl := HW.out
  have bb : RowKit.Below w1.heap.size w1 (w1.alloc (.cells #[.slice a C.length cap] 141)) := (RowKit.Below.refl _ _).alloc (Nat.le_refl _) _
  exact ⟨w1.heap.size, rfl, ⟨a, cap, Blk.new _ _ _, HR.out.after bb, by simp, fun x e => by have := hax x e; simp; omega⟩, hb1.trans (bb.mono hb1.size), hb1.size⟩

theorem seqH_nil (w : World) : Calls Try.prog 52 #[.pointer none] w (SeqHEnd w []) := by
  go_enter Try.func52, Try.ntmps52
  go_wp2_with fail
  with_reducible refine (valuesH_ok _ _ _ _).mono ?_
  rintro e w2 ⟨rfl, hw2⟩
  have HW := Lib.hid hw2
  clear hw2
  go_wp2_with fail
  go_ret
  obtain rfl := HW.out
  exact ⟨w.heap.size, rfl, ⟨none, 0, Blk.new _ _ _, RowsAt.nil _ _ _ _, by simp, by simp⟩, (RowKit.Below.refl _ _).alloc (Nat.le_refl _) _, Nat.le_refl _⟩

theorem eqlfH (fn : Fn) (a b : Array Value) (w : World) : (binOp .eql 115 (.func fn a b) .nilFunc).run Try.prog w = .ok (.bool false) w := by kernel_rfl

end Go.Proofs.Ytkloijkfaooodaa
