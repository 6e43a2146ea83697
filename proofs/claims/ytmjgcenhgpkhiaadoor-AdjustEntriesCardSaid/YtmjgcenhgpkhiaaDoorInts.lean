/- Rows of integers in memory, by an index function; rows that a call owns. Over any program. -/
import Derived.Test.YtmjgcenhgpkhiaaDoorBase
import Derived.OwnWalk
import Derived.Laws.OwnMore
namespace Go.Proofs.YtmjgcenhgpkhiaaDoor
open Go.RowKit
set_option linter.unusedVariables false
set_option linter.unusedSimpArgs false

theorem below_row {w w' : World} (h : Below w.heap.size w w') (row : Option Nat) : w.grownBy w' row := ⟨h.os, h.tape, h.output, h.size, fun k hk _ => h.block k hk⟩
theorem grown_trans {a b c : World} {row : Option Nat} (h : a.grownBy b row) (k : b.grownBy c row) : a.grownBy c row :=
  ⟨k.os.trans h.os, k.tape.trans h.tape, k.output.trans h.output, Nat.le_trans h.size k.size, fun i hi hn => (k.block i (Nat.lt_of_lt_of_le hi h.size) hn).trans (h.block i hi hn)⟩
theorem grown_setCell (w : World) (b o : Nat) (v : Value) : w.grownBy (w.setCell ⟨b, o, none⟩ v) (some b) :=
  ⟨rfl, rfl, rfl, by simp [World.setCell], fun k _ hn => Below.heap_setCell _ _ _ _ (fun e => hn (by rw [e]))⟩
theorem grown_below {w w' : World} {b : Nat} (h : w.grownBy w' (some b)) (hb : b < w.heap.size) : Below b w w' :=
  ⟨h.os, h.tape, h.output, h.size, fun k hk => h.block k (by omega) (by simp; omega)⟩
theorem grown_cell {w w' : World} {row : Option Nat} {a : Addr} {v : Value} (h : w.grownBy w' row) (hc : w.cell? a = some v) (hn : row ≠ some a.block) : w'.cell? a = some v := by
  have hl := World.block_lt_of_cell? w _ hc
  exact (World.cell?_of_block (h.block a.block hl (fun e => hn e.symm))).trans hc
theorem grown_frozen {w w' : World} {row : Option Nat} {a : Addr} {v : Value} {f : Bool} (h : w.grownBy w' row) (hc : w.cell? a = some v) (hf : w.frozen? a = f) (hn : row ≠ some a.block) : w'.frozen? a = f := by
  have hl := World.block_lt_of_cell? w _ hc
  exact (World.frozen?_of_block (h.block a.block hl (fun e => hn e.symm))).trans hf
theorem below_cell {w w' : World} {a : Addr} {v : Value} (h : Below w.heap.size w w') (hc : w.cell? a = some v) : w'.cell? a = some v := grown_cell (below_row h none) hc (by simp)
theorem below_frozen {w w' : World} {a : Addr} {v : Value} {f : Bool} (h : Below w.heap.size w w') (hc : w.cell? a = some v) (hf : w.frozen? a = f) : w'.frozen? a = f := grown_frozen (below_row h none) hc hf (by simp)
theorem below_draws {B : Nat} (w : World) (n : Nat) : Below B w (w.drewN n) := ⟨rfl, rfl, rfl, Nat.le_refl _, fun _ _ => rfl⟩

theorem ret_int {k : IntKind} {a b : Int} (h : a = b) : Ending.returned (.int k a) = .returned (.int k b) := by rw [h]
theorem ret_bool {a b : Bool} (h : a = b) : Ending.returned (.bool a) = .returned (.bool b) := by rw [h]

/-- A row of 'len' cells, one behind the other, from where a leads on (nothing is asked where len is 0). -/
def RowAt (w : World) (a : Option Addr) (len : Nat) (f : Nat → Value) : Prop :=
  0 < len → ∃ b o, a = some ⟨b, o, none⟩ ∧ ∀ i, i < len → w.cell? ⟨b, o + i, none⟩ = some (f i)

theorem RowAt.nil (w : World) (a : Option Addr) (f : Nat → Value) : RowAt w a 0 f := fun h => absurd h (by omega)
theorem RowAt.grown {w w' : World} {row : Option Nat} {a : Option Addr} {len : Nat} {f : Nat → Value} (h : RowAt w a len f) (hg : w.grownBy w' row) (hr : ∀ x, a = some x → row ≠ some x.block) : RowAt w' a len f := fun hl => by
  obtain ⟨b, o, e, hc⟩ := h hl
  have hr' := hr _ e
  exact ⟨b, o, e, fun i hi => grown_cell hg (hc i hi) hr'⟩
theorem RowAt.after {w w' : World} {a : Option Addr} {len : Nat} {f : Nat → Value} (h : RowAt w a len f) (hb : Below w.heap.size w w') : RowAt w' a len f := h.grown (below_row hb none) (by simp)
theorem RowAt.below {w w' : World} {B : Nat} {a : Option Addr} {len : Nat} {f : Nat → Value} (h : RowAt w a len f) (hb : Below B w w') (hB : ∀ x, a = some x → x.block < B) : RowAt w' a len f := fun hl => by
  obtain ⟨b, o, e, hc⟩ := h hl
  have hB' := hB _ e
  exact ⟨b, o, e, fun i hi => (hb.cell (p := ⟨b, o + i, none⟩) hB').trans (hc i hi)⟩
theorem RowAt.lt {w : World} {a : Option Addr} {len : Nat} {f : Nat → Value} (h : RowAt w a len f) (hl : 0 < len) : ∃ b o, a = some ⟨b, o, none⟩ ∧ b < w.heap.size := by
  obtain ⟨b, o, e, hc⟩ := h hl
  exact ⟨b, o, e, World.block_lt_of_cell? w _ (hc 0 hl)⟩
theorem RowAt.congr {w : World} {a : Option Addr} {len : Nat} {f g : Nat → Value} (h : RowAt w a len f) (e : ∀ i, i < len → f i = g i) : RowAt w a len g := fun hl => by
  obtain ⟨b, o, ea, hc⟩ := h hl
  exact ⟨b, o, ea, fun i hi => (hc i hi).trans (by rw [e i hi])⟩
theorem RowAt.take {w : World} {a : Option Addr} {len n : Nat} {f : Nat → Value} (h : RowAt w a len f) (hn : n ≤ len) : RowAt w a n f := fun hl => by
  obtain ⟨b, o, ea, hc⟩ := h (by omega)
  exact ⟨b, o, ea, fun i hi => hc i (by omega)⟩

/-- What the call owns, as a slice's parts. -/
theorem owned_parts {w : World} {base : Nat} {e : TypeId} {size : Nat} {v : Value} {n : Nat} {xs : List Value} (h : w.ownsRow base e size v n xs) :
    ∃ a cap, v = .slice a n cap ∧ (a = none → n = 0 ∧ cap = 0) ∧ n ≤ cap ∧ cap ≤ maxLen ∧ (∀ x, a = some x → base ≤ x.block ∧ x.block < w.heap.size) ∧ RowAt w a (n * size) (fun i => xs.getD i undef) := by
  have h0 := h
  obtain ⟨hl, h⟩ := h
  rcases h with ⟨rfl, rfl⟩ | ⟨g, cap, cur, rfl, hb, hh, hc, hm, hs, ht⟩
  · exact ⟨none, 0, rfl, fun _ => ⟨rfl, rfl⟩, Nat.le_refl _, by unfold maxLen; omega, (fun x e => by cases e), by rw [Nat.zero_mul]; exact RowAt.nil _ _ _⟩
  · refine ⟨some ⟨g, 0, none⟩, cap, rfl, (fun e => by cases e), hc, hm, (fun x e => by cases e; exact ⟨hb, (Array.getElem?_eq_some_iff.1 hh).1⟩), fun hn => ⟨g, 0, rfl, fun i hi => ?_⟩⟩
    rw [Nat.zero_add, h0.cellAt i hi]
    show xs[i]? = some (xs.getD i undef)
    rw [List.getD_eq_getElem?_getD, List.getElem?_eq_getElem (by omega)]
    rfl

/-- One new cell, as the appended value's own block. -/
theorem news_one (w : World) (v : Value) (t : TypeId) : ∀ j u, [v][j]? = some u → (w.alloc (.cells #[v] t)).cell? ((⟨w.heap.size, 0, none⟩ : Addr).add j) = some u := by
  intro j u hj
  cases j with
  | zero => simp at hj; subst hj; simp [Addr.add]
  | succ j => simp at hj

end Go.Proofs.YtmjgcenhgpkhiaaDoor
