/- Whole blocks, and rows of records of one width, as predicates of a world: how they are carried over what a call does. Over any program. -/
import Derived.Test.YtmjgcenhgpkhiaaDoorInts
import Derived.OneCell
namespace Go.Proofs.YtmjgcenhgpkhiaaDoor
open Go.RowKit
set_option linter.unusedVariables false
set_option linter.unusedSimpArgs false

/-- A block, known whole. -/
def Blk (w : World) (B : Nat) (cs : Array Value) (T : TypeId) : Prop := w.heap[B]? = some (.cells cs T (0, 0))

theorem Blk.new (w : World) (cs : Array Value) (T : TypeId) : Blk (w.alloc (.cells cs T)) w.heap.size cs T := by
  unfold Blk World.alloc
  simp
theorem Blk.lt {w : World} {B : Nat} {cs : Array Value} {T : TypeId} (h : Blk w B cs T) : B < w.heap.size := lt_of_block h
theorem Blk.grown {w w' : World} {B : Nat} {cs : Array Value} {T : TypeId} {row : Option Nat} (h : Blk w B cs T) (hg : w.grownBy w' row) (hr : row ≠ some B) : Blk w' B cs T :=
  (hg.block B h.lt (fun e => hr e.symm)).trans h
theorem Blk.after {w w' : World} {B : Nat} {cs : Array Value} {T : TypeId} (h : Blk w B cs T) (hb : Below w.heap.size w w') : Blk w' B cs T := h.grown (below_row hb none) (by simp)
theorem Blk.below {w w' : World} {B N : Nat} {cs : Array Value} {T : TypeId} (h : Blk w B cs T) (hb : Below N w w') (hB : B < N) : Blk w' B cs T := (hb.block B hB).trans h
theorem Blk.drew {w : World} {B : Nat} {cs : Array Value} {T : TypeId} (h : Blk w B cs T) : Blk w.drew B cs T := h.after (Below.refl _ _).drew
theorem Blk.alloc {w : World} {B : Nat} {cs : Array Value} {T : TypeId} (h : Blk w B cs T) (o : Obj) : Blk (w.alloc o) B cs T := h.after ((Below.refl _ _).alloc (Nat.le_refl _) _)
theorem Blk.cell {w : World} {B : Nat} {cs : Array Value} {T : TypeId} (h : Blk w B cs T) (j : Nat) {v : Value} (hv : cs[j]? = some v) : w.cell? ⟨B, j, none⟩ = some v := by
  unfold World.cell?
  simp only [show w.heap[B]? = _ from h]
  exact hv
theorem Blk.free {w : World} {B : Nat} {cs : Array Value} {T : TypeId} (h : Blk w B cs T) (j : Nat) : w.frozen? ⟨B, j, none⟩ = false := by
  unfold World.frozen?
  simp [show w.heap[B]? = _ from h]
theorem Blk.set {w : World} {B : Nat} {cs : Array Value} {T : TypeId} (h : Blk w B cs T) (j : Nat) (v : Value) : Blk (w.setCell ⟨B, j, none⟩ v) B (cs.setIfInBounds j v) T := by
  have hlt := h.lt
  have h0 : w.heap[B]? = some (.cells cs T (0, 0)) := h
  have h' : w.heap[B] = .cells cs T (0, 0) := by simpa [Array.getElem?_eq_getElem hlt] using h0
  show (w.heap.modify B _)[B]? = _
  rw [Array.getElem?_eq_getElem (by simpa using hlt), Array.getElem_modify_self, h']
  rfl
theorem Blk.far {w : World} {B B' : Nat} {cs : Array Value} {T : TypeId} (h : Blk w B cs T) (j : Nat) (v : Value) (hn : B ≠ B') : Blk (w.setCell ⟨B', j, none⟩ v) B cs T :=
  h.grown (grown_setCell _ _ _ _) (by simpa using hn.symm)
theorem Blk.own_ne {w : World} {B base size n : Nat} {cs : Array Value} {T e : TypeId} {v : Value} {xs : List Value} (h : Blk w B cs T) (ho : w.ownsRow base e size v n xs) (hT : T ≠ e) : v.ownBlock ≠ some B := by
  obtain ⟨_, ho⟩ := ho
  rcases ho with ⟨rfl, _⟩ | ⟨g, cap, cur, rfl, _, hh, _⟩
  · simp [Value.ownBlock]
  · intro e
    simp only [Value.ownBlock, Option.some.injEq] at e
    subst e
    rw [show w.heap[g]? = _ from h] at hh
    simp only [Option.some.injEq, Obj.cells.injEq] at hh
    exact hT hh.2.1

/-- A row of n records, each of 'size' cells, one behind the other (nothing is asked where there are none). -/
def RowsAt (w : World) (a : Option Addr) (n size : Nat) (f : Nat → List Value) : Prop :=
  0 < n → ∃ b o, a = some ⟨b, o, none⟩ ∧ ∀ i, i < n → ∀ (j : Nat) (v : Value), (f i)[j]? = some v → w.cell? ⟨b, o + i * size + j, none⟩ = some v

theorem RowsAt.nil (w : World) (a : Option Addr) (size : Nat) (f : Nat → List Value) : RowsAt w a 0 size f := fun h => absurd h (by omega)
theorem RowsAt.grown {w w' : World} {row : Option Nat} {a : Option Addr} {n size : Nat} {f : Nat → List Value} (h : RowsAt w a n size f) (hg : w.grownBy w' row) (hr : ∀ x, a = some x → row ≠ some x.block) : RowsAt w' a n size f := fun hl => by
  obtain ⟨b, o, e, hc⟩ := h hl
  have hr' := hr _ e
  exact ⟨b, o, e, fun i hi j v hv => grown_cell hg (hc i hi j v hv) hr'⟩
theorem RowsAt.after {w w' : World} {a : Option Addr} {n size : Nat} {f : Nat → List Value} (h : RowsAt w a n size f) (hb : Below w.heap.size w w') : RowsAt w' a n size f := h.grown (below_row hb none) (by simp)
theorem RowsAt.below {w w' : World} {B : Nat} {a : Option Addr} {n size : Nat} {f : Nat → List Value} (h : RowsAt w a n size f) (hb : Below B w w') (hB : ∀ x, a = some x → x.block < B) : RowsAt w' a n size f := fun hl => by
  obtain ⟨b, o, e, hc⟩ := h hl
  have hB' := hB _ e
  exact ⟨b, o, e, fun i hi j v hv => (hb.cell (p := ⟨b, o + i * size + j, none⟩) hB').trans (hc i hi j v hv)⟩
theorem RowsAt.congr {w : World} {a : Option Addr} {n size : Nat} {f g : Nat → List Value} (h : RowsAt w a n size f) (e : ∀ i, i < n → f i = g i) : RowsAt w a n size g := fun hl => by
  obtain ⟨b, o, ea, hc⟩ := h hl
  exact ⟨b, o, ea, fun i hi j v hv => hc i hi j v (by rw [e i hi]; exact hv)⟩
theorem RowsAt.take {w : World} {a : Option Addr} {n m size : Nat} {f : Nat → List Value} (h : RowsAt w a n size f) (hm : m ≤ n) : RowsAt w a m size f := fun hl => by
  obtain ⟨b, o, ea, hc⟩ := h (by omega)
  exact ⟨b, o, ea, fun i hi => hc i (by omega)⟩
theorem RowsAt.lt {w : World} {a : Option Addr} {n size : Nat} {f : Nat → List Value} (h : RowsAt w a n size f) (hl : 0 < n) (h0 : f 0 ≠ []) : ∃ b o, a = some ⟨b, o, none⟩ ∧ b < w.heap.size := by
  obtain ⟨b, o, e, hc⟩ := h hl
  refine ⟨b, o, e, ?_⟩
  cases hf : f 0 with
  | nil => exact absurd hf h0
  | cons v vs => exact World.block_lt_of_cell? w _ (hc 0 hl 0 v (by rw [hf]; rfl))

/-- The records as cells. -/
def flatF (f : Nat → List Value) : Nat → List Value
  | 0 => []
  | n + 1 => flatF f n ++ f n
theorem flatF_len {f : Nat → List Value} {size : Nat} (hs : ∀ i, (f i).length = size) : ∀ n, (flatF f n).length = n * size
  | 0 => by simp [flatF]
  | n + 1 => by rw [flatF, List.length_append, flatF_len hs n, hs n, Nat.succ_mul]
theorem flatF_get {f : Nat → List Value} {size : Nat} (hs : ∀ i, (f i).length = size) : ∀ (n i : Nat), i < n → ∀ (j : Nat) (v : Value), (f i)[j]? = some v → (flatF f n)[i * size + j]? = some v
  | 0, i, h, _, _, _ => absurd h (by omega)
  | n + 1, i, h, j, v, hv => by
    have hj : j < size := by have := (List.getElem?_eq_some_iff.1 hv).1; rw [hs] at this; exact this
    rw [flatF]
    rcases Nat.lt_or_ge i n with g | g
    · have h1 := flatF_get hs n i g j v hv
      rw [List.getElem?_append_left (List.getElem?_eq_some_iff.1 h1).1]
      exact h1
    · obtain rfl : i = n := by omega
      rw [List.getElem?_append_right (by rw [flatF_len hs]; omega), flatF_len hs]
      rw [show i * size + j - i * size = j from by omega]
      exact hv
theorem flatF_inv {f : Nat → List Value} {size : Nat} (hs : ∀ i, (f i).length = size) : ∀ (n k : Nat) (v : Value), (flatF f n)[k]? = some v → ∃ i j, i < n ∧ k = i * size + j ∧ (f i)[j]? = some v
  | 0, k, v, h => by simp [flatF] at h
  | n + 1, k, v, h => by
    rw [flatF] at h
    rcases Nat.lt_or_ge k (flatF f n).length with g | g
    · rw [List.getElem?_append_left g] at h
      obtain ⟨i, j, h1, h2, h3⟩ := flatF_inv hs n k v h
      exact ⟨i, j, by omega, h2, h3⟩
    · rw [List.getElem?_append_right g] at h
      exact ⟨n, k - (flatF f n).length, by omega, by rw [flatF_len hs] at g ⊢; omega, h⟩
theorem RowsAt.cells {w : World} {a : Option Addr} {n size : Nat} {f : Nat → List Value} (h : RowsAt w a n size f) (hs : ∀ i, (f i).length = size) {x : Addr} (hx : a = some x) : ∀ (j : Nat) (u : Value), (flatF f n)[j]? = some u → w.cell? (x.add j) = some u := by
  intro k u hk
  obtain ⟨i, j, hi, rfl, hj⟩ := flatF_inv hs n k u hk
  obtain ⟨b, o, e, hc⟩ := h (by omega)
  rw [hx] at e
  cases e
  rw [add_plain, ← Nat.add_assoc]
  exact hc i hi j u hj

/-- What the call owns, as records. -/
theorem owned_rows {w : World} {base : Nat} {e : TypeId} {size n : Nat} {v : Value} {f : Nat → List Value} (hs : ∀ i, (f i).length = size) (h : w.ownsRow base e size v n (flatF f n)) :
    ∃ a cap, v = .slice a n cap ∧ (a = none → n = 0 ∧ cap = 0) ∧ n ≤ cap ∧ cap ≤ maxLen ∧ (∀ x, a = some x → base ≤ x.block ∧ x.block < w.heap.size) ∧ RowsAt w a n size f := by
  obtain ⟨a, cap, rfl, g0, g1, g2, g3, g4⟩ := owned_parts h
  refine ⟨a, cap, rfl, g0, g1, g2, g3, fun hn => ?_⟩
  by_cases hz : size = 0
  · obtain ⟨x, rfl⟩ : ∃ x, a = some x := by
      cases a with
      | none => have := (g0 rfl).1; omega
      | some x => exact ⟨x, rfl⟩
    obtain ⟨_, h2⟩ := h
    rcases h2 with ⟨h2, _⟩ | ⟨g, c', cur, h2, _⟩
    · cases h2
    · simp only [Value.slice.injEq, Option.some.injEq] at h2
      refine ⟨g, 0, by rw [h2.1], fun i hi j v hv => ?_⟩
      have := (List.getElem?_eq_some_iff.1 hv).1
      rw [hs, hz] at this
      omega
  · obtain ⟨b, o, ea, hc⟩ := g4 (Nat.mul_pos hn (by omega))
    refine ⟨b, o, ea, fun i hi j v hv => ?_⟩
    have hj : j < size := by have := (List.getElem?_eq_some_iff.1 hv).1; rw [hs] at this; exact this
    have h1 := flatF_get hs n i hi j v hv
    have h2 : w.cell? _ = some ((flatF f n).getD (i * size + j) undef) := hc (i * size + j) (by have := (List.getElem?_eq_some_iff.1 h1).1; rwa [flatF_len hs] at this)
    rw [List.getD_eq_getElem?_getD, h1] at h2
    rw [Nat.add_assoc]
    exact h2

/-- An argument's elements, as records. -/
theorem elems_rows {H : Type} {enc : TypeId × Value → H} {P : Program} {w : World} {base : Nat} {spare : Nat → Bool} {held : Bool} {ls : List TypeId} {a : Addr} {len : Nat} (h : ElemsAre enc P w base spare held ls a len) (h1 : 0 < ls.length) :
    ∃ f : Nat → List Value, (∀ i, i < len → CellsAre (LeafOk enc P w base spare held) ls (f i)) ∧ RowsAt w (some a) len ls.length f := by
  obtain ⟨f, hf⟩ : ∃ f : Nat → List Value, ∀ i, i < len → CellsAre (LeafOk enc P w base spare held) ls (f i) ∧ ∀ j, j < ls.length → w.cell? (a.add (i * ls.length + j)) = (f i)[j]? := by
    refine ⟨fun i => if hi : i < len then (h i hi).choose else [], fun i hi => ?_⟩
    simp only [hi, dite_true]
    exact (h i hi).choose_spec
  refine ⟨f, fun i hi => (hf i hi).1, fun hl => ?_⟩
  obtain ⟨b, o, rfl⟩ := elems_plain h h1 hl
  refine ⟨b, o, rfl, fun i hi j v hv => ?_⟩
  have hj : j < ls.length := by have := (List.getElem?_eq_some_iff.1 hv).1; rwa [(hf i hi).1.length] at this
  have := (hf i hi).2 j hj
  rw [add_plain, ← Nat.add_assoc, hv] at this
  exact this

end Go.Proofs.YtmjgcenhgpkhiaaDoor
