/- Whole blocks, and rows of records of one width, as predicates of a world: how they are carried over what a call does. Over any program. -/
import Derived.Test.YtmjgcenhgpkhiaaDoorMgA
import Derived.OneCell
import Derived.Shelf.GgSortFunc.RowK
import Derived.Shelf.SlSortCmp.InsertionK
import Derived.Deep.AppendLies
namespace Go.Proofs.YtmjgcenhgpkhiaaDoor
open Go.RowKit
set_option linter.unusedVariables false
set_option linter.unusedSimpArgs false

/-- A block, known whole. -/
def Blk (w : World) (B : Nat) (cs : Array Value) (T : TypeId) : Prop := w.heap[B]? = some (.cells cs T (0, 0))

theorem Blk.new (w : World) (cs : Array Value) (T : TypeId) : Blk (w.alloc (.cells cs T)) w.heap.size cs T := by
  unfold Blk World.alloc
  simp
theorem Blk.lt {w : World} {B : Nat} {cs : Array Value} {T : TypeId} (h : Blk w B cs T) : B < w.heap.size := lt_of_block h
theorem Blk.grown {w w' : World} {B : Nat} {cs : Array Value} {T : TypeId} {row : Option Nat} (h : Blk w B cs T) (hg : w.grownBy w' row) (hr : row ≠ some B) : Blk w' B cs T :=
  (hg.block B h.lt (fun e => hr e.symm)).trans h
theorem Blk.after {w w' : World} {B : Nat} {cs : Array Value} {T : TypeId} (h : Blk w B cs T) (hb : Below w.heap.size w w') : Blk w' B cs T := h.grown (below_row hb none) (by simp)
theorem Blk.below {w w' : World} {B N : Nat} {cs : Array Value} {T : TypeId} (h : Blk w B cs T) (hb : Below N w w') (hB : B < N) : Blk w' B cs T := (hb.block B hB).trans h
theorem Blk.drew {w : World} {B : Nat} {cs : Array Value} {T : TypeId} (h : Blk w B cs T) : Blk w.drew B cs T := h.after (Below.refl _ _).drew
theorem Blk.alloc {w : World} {B : Nat} {cs : Array Value} {T : TypeId} (h : Blk w B cs T) (o : Obj) : Blk (w.alloc o) B cs T := h.after ((Below.refl _ _).alloc (Nat.le_refl _) _)
theorem Blk.cell {w : World} {B : Nat} {cs : Array Value} {T : TypeId} (h : Blk w B cs T) (j : Nat) {v : Value} (hv : cs[j]? = some v) : w.cell? ⟨B, j, none⟩ = some v := by
  unfold World.cell?
  simp only [show w.heap[B]? = _ from h]
  exact hv
theorem Blk.free {w : World} {B : Nat} {cs : Array Value} {T : TypeId} (h : Blk w B cs T) (j : Nat) : w.frozen? ⟨B, j, none⟩ = false := by
  unfold World.frozen?
  simp [show w.heap[B]? = _ from h]
theorem Blk.set {w : World} {B : Nat} {cs : Array Value} {T : TypeId} (h : Blk w B cs T) (j : Nat) (v : Value) : Blk (w.setCell ⟨B, j, none⟩ v) B (cs.setIfInBounds j v) T := by
  have hlt := h.lt
  have h0 : w.heap[B]? = some (.cells cs T (0, 0)) := h
  have h' : w.heap[B] = .cells cs T (0, 0) := by simpa [Array.getElem?_eq_getElem hlt] using h0
  show (w.heap.modify B _)[B]? = _
  rw [Array.getElem?_eq_getElem (by simpa using hlt), Array.getElem_modify_self, h']
  rfl
theorem Blk.far {w : World} {B B' : Nat} {cs : Array Value} {T : TypeId} (h : Blk w B cs T) (j : Nat) (v : Value) (hn : B ≠ B') : Blk (w.setCell ⟨B', j, none⟩ v) B cs T :=
  h.grown (grown_setCell _ _ _ _) (by simpa using hn.symm)
theorem Blk.own_ne {w : World} {B base size n : Nat} {cs : Array Value} {T e : TypeId} {v : Value} {xs : List Value} (h : Blk w B cs T) (ho : w.ownsRow base e size v n xs) (hT : T ≠ e) : v.ownBlock ≠ some B := by
  obtain ⟨_, ho⟩ := ho
  rcases ho with ⟨rfl, _⟩ | ⟨g, cap, cur, rfl, _, hh, _⟩
  · simp [Value.ownBlock]
  · intro e
    simp only [Value.ownBlock, Option.some.injEq] at e
    subst e
    rw [show w.heap[g]? = _ from h] at hh
    simp only [Option.some.injEq, Obj.cells.injEq] at hh
    exact hT hh.2.1

/-- A row of n records, each of 'size' cells, one behind the other (nothing is asked where there are none). -/
def RowsAt (w : World) (a : Option Addr) (n size : Nat) (f : Nat → List Value) : Prop :=
  0 < n → ∃ b o, a = some ⟨b, o, none⟩ ∧ ∀ i, i < n → ∀ (j : Nat) (v : Value), (f i)[j]? = some v → w.cell? ⟨b, o + i * size + j, none⟩ = some v

theorem RowsAt.nil (w : World) (a : Option Addr) (size : Nat) (f : Nat → List Value) : RowsAt w a 0 size f := fun h => absurd h (by omega)
theorem RowsAt.grown {w w' : World} {row : Option Nat} {a : Option Addr} {n size : Nat} {f : Nat → List Value} (h : RowsAt w a n size f) (hg : w.grownBy w' row) (hr : ∀ x, a = some x → row ≠ some x.block) : RowsAt w' a n size f := fun hl => by
  obtain ⟨b, o, e, hc⟩ := h hl
  have hr' := hr _ e
  exact ⟨b, o, e, fun i hi j v hv => grown_cell hg (hc i hi j v hv) hr'⟩
theorem RowsAt.after {w w' : World} {a : Option Addr} {n size : Nat} {f : Nat → List Value} (h : RowsAt w a n size f) (hb : Below w.heap.size w w') : RowsAt w' a n size f := h.grown (below_row hb none) (by simp)
theorem RowsAt.below {w w' : World} {B : Nat} {a : Option Addr} {n size : Nat} {f : Nat → List Value} (h : RowsAt w a n size f) (hb : Below B w w') (hB : ∀ x, a = some x → x.block < B) : RowsAt w' a n size f := fun hl => by
  obtain ⟨b, o, e, hc⟩ := h hl
  have hB' := hB _ e
  exact ⟨b, o, e, fun i hi j v hv => (hb.cell (p := ⟨b, o + i * size + j, none⟩) hB').trans (hc i hi j v hv)⟩
theorem RowsAt.congr {w : World} {a : Option Addr} {n size : Nat} {f g : Nat → List Value} (h : RowsAt w a n size f) (e : ∀ i, i < n → f i = g i) : RowsAt w a n size g := fun hl => by
  obtain ⟨b, o, ea, hc⟩ := h hl
  exact ⟨b, o, ea, fun i hi j v hv => hc i hi j v (by rw [e i hi]; exact hv)⟩
theorem RowsAt.take {w : World} {a : Option Addr} {n m size : Nat} {f : Nat → List Value} (h : RowsAt w a n size f) (hm : m ≤ n) : RowsAt w a m size f := fun hl => by
  obtain ⟨b, o, ea, hc⟩ := h (by omega)
  exact ⟨b, o, ea, fun i hi => hc i (by omega)⟩
theorem RowsAt.lt {w : World} {a : Option Addr} {n size : Nat} {f : Nat → List Value} (h : RowsAt w a n size f) (hl : 0 < n) (h0 : f 0 ≠ []) : ∃ b o, a = some ⟨b, o, none⟩ ∧ b < w.heap.size := by
  obtain ⟨b, o, e, hc⟩ := h hl
  refine ⟨b, o, e, ?_⟩
  cases hf : f 0 with
  | nil => exact absurd hf h0
  | cons v vs => exact World.block_lt_of_cell? w _ (hc 0 hl 0 v (by rw [hf]; rfl))

/-- The records as cells. -/
def flatF (f : Nat → List Value) : Nat → List Value
  | 0 => []
  | n + 1 => flatF f n ++ f n
theorem flatF_len {f : Nat → List Value} {size : Nat} (hs : ∀ i, (f i).length = size) : ∀ n, (flatF f n).length = n * size
  | 0 => by simp [flatF]
  | n + 1 => by rw [flatF, List.length_append, flatF_len hs n, hs n, Nat.succ_mul]
theorem flatF_get {f : Nat → List Value} {size : Nat} (hs : ∀ i, (f i).length = size) : ∀ (n i : Nat), i < n → ∀ (j : Nat) (v : Value), (f i)[j]? = some v → (flatF f n)[i * size + j]? = some v
  | 0, i, h, _, _, _ => absurd h (by omega)
  | n + 1, i, h, j, v, hv => by
    have hj : j < size := by have := (List.getElem?_eq_some_iff.1 hv).1; rw [hs] at this; exact this
    rw [flatF]
    rcases Nat.lt_or_ge i n with g | g
    · have h1 := flatF_get hs n i g j v hv
      rw [List.getElem?_append_left (List.getElem?_eq_some_iff.1 h1).1]
      exact h1
    · obtain rfl : i = n := by omega
      rw [List.getElem?_append_right (by rw [flatF_len hs]; omega), flatF_len hs]
      rw [show i * size + j - i * size = j from by omega]
      exact hv
theorem flatF_inv {f : Nat → List Value} {size : Nat} (hs : ∀ i, (f i).length = size) : ∀ (n k : Nat) (v : Value), (flatF f n)[k]? = some v → ∃ i j, i < n ∧ k = i * size + j ∧ (f i)[j]? = some v
  | 0, k, v, h => by simp [flatF] at h
  | n + 1, k, v, h => by
    rw [flatF] at h
    rcases Nat.lt_or_ge k (flatF f n).length with g | g
    · rw [List.getElem?_append_left g] at h
      obtain ⟨i, j, h1, h2, h3⟩ := flatF_inv hs n k v h
      exact ⟨i, j, by omega, h2, h3⟩
    · rw [List.getElem?_append_right g] at h
      exact ⟨n, k - (flatF f n).length, by omega, by rw [flatF_len hs] at g ⊢; omega, h⟩
theorem RowsAt.cells {w : World} {a : Option Addr} {n size : Nat} {f : Nat → List Value} (h : RowsAt w a n size f) (hs : ∀ i, (f i).length = size) {x : Addr} (hx : a = some x) : ∀ (j : Nat) (u : Value), (flatF f n)[j]? = some u → w.cell? (x.add j) = some u := by
  intro k u hk
  obtain ⟨i, j, hi, rfl, hj⟩ := flatF_inv hs n k u hk
  obtain ⟨b, o, e, hc⟩ := h (by omega)
  rw [hx] at e
  cases e
  rw [add_plain, ← Nat.add_assoc]
  exact hc i hi j u hj

/-- What the call owns, as records. -/
theorem owned_rows {w : World} {base : Nat} {e : TypeId} {size n : Nat} {v : Value} {f : Nat → List Value} (hs : ∀ i, (f i).length = size) (h : w.ownsRow base e size v n (flatF f n)) :
    ∃ a cap, v = .slice a n cap ∧ (a = none → n = 0 ∧ cap = 0) ∧ n ≤ cap ∧ cap ≤ maxLen ∧ (∀ x, a = some x → base ≤ x.block ∧ x.block < w.heap.size) ∧ RowsAt w a n size f := by
  obtain ⟨a, cap, rfl, g0, g1, g2, g3, g4⟩ := owned_parts h
  refine ⟨a, cap, rfl, g0, g1, g2, g3, fun hn => ?_⟩
  by_cases hz : size = 0
  · obtain ⟨x, rfl⟩ : ∃ x, a = some x := by
      cases a with
      | none => have := (g0 rfl).1; omega
      | some x => exact ⟨x, rfl⟩
    obtain ⟨_, h2⟩ := h
    rcases h2 with ⟨h2, _⟩ | ⟨g, c', cur, h2, _⟩
    · cases h2
    · simp only [Value.slice.injEq, Option.some.injEq] at h2
      refine ⟨g, 0, by rw [h2.1], fun i hi j v hv => ?_⟩
      have := (List.getElem?_eq_some_iff.1 hv).1
      rw [hs, hz] at this
      omega
  · obtain ⟨b, o, ea, hc⟩ := g4 (Nat.mul_pos hn (by omega))
    refine ⟨b, o, ea, fun i hi j v hv => ?_⟩
    have hj : j < size := by have := (List.getElem?_eq_some_iff.1 hv).1; rw [hs] at this; exact this
    have h1 := flatF_get hs n i hi j v hv
    have h2 : w.cell? _ = some ((flatF f n).getD (i * size + j) undef) := hc (i * size + j) (by have := (List.getElem?_eq_some_iff.1 h1).1; rwa [flatF_len hs] at this)
    rw [List.getD_eq_getElem?_getD, h1] at h2
    rw [Nat.add_assoc]
    exact h2

/-- An argument's elements, as records. -/
theorem elems_rows {H : Type} {enc : TypeId × Value → H} {P : Program} {w : World} {base : Nat} {spare : Nat → Bool} {held : Bool} {ls : List TypeId} {a : Addr} {len : Nat} (h : ElemsAre enc P w base spare held ls a len) (h1 : 0 < ls.length) :
    ∃ f : Nat → List Value, (∀ i, i < len → CellsAre (LeafOk enc P w base spare held) ls (f i)) ∧ RowsAt w (some a) len ls.length f := by
  obtain ⟨f, hf⟩ : ∃ f : Nat → List Value, ∀ i, i < len → CellsAre (LeafOk enc P w base spare held) ls (f i) ∧ ∀ j, j < ls.length → w.cell? (a.add (i * ls.length + j)) = (f i)[j]? := by
    refine ⟨fun i => if hi : i < len then (h i hi).choose else [], fun i hi => ?_⟩
    simp only [hi, dite_true]
    exact (h i hi).choose_spec
  refine ⟨f, fun i hi => (hf i hi).1, fun hl => ?_⟩
  obtain ⟨b, o, rfl⟩ := elems_plain h h1 hl
  refine ⟨b, o, rfl, fun i hi j v hv => ?_⟩
  have hj : j < ls.length := by have := (List.getElem?_eq_some_iff.1 hv).1; rwa [(hf i hi).1.length] at this
  have := (hf i hi).2 j hj
  rw [add_plain, ← Nat.add_assoc, hv] at this
  exact this

end Go.Proofs.YtmjgcenhgpkhiaaDoor
namespace Go.Proofs.YtmjgcenhgpkhiaaDoor
open Go.RowKit Go.Sort
set_option linter.unusedVariables false
set_option linter.unusedSimpArgs false

section
variable {α : Type} {enc : α → List Value} {size : Nat}

/-- Records as cells. -/
def cellsL (enc : α → List Value) : List α → List Value
  | [] => []
  | x :: xs => enc x ++ cellsL enc xs
theorem cellsL_append (xs ys : List α) : cellsL enc (xs ++ ys) = cellsL enc xs ++ cellsL enc ys := by
  induction xs with
  | nil => rfl
  | cons x xs ih => rw [List.cons_append, cellsL, ih, cellsL, List.append_assoc]
theorem cellsL_snoc (xs : List α) (x : α) : cellsL enc (xs ++ [x]) = cellsL enc xs ++ enc x := by
  rw [cellsL_append]
  simp [cellsL]
theorem cellsL_len (hs : ∀ x, (enc x).length = size) : ∀ xs : List α, (cellsL enc xs).length = xs.length * size
  | [] => by simp [cellsL]
  | x :: xs => by rw [cellsL, List.length_append, hs, cellsL_len hs xs, List.length_cons, Nat.succ_mul, Nat.add_comm]
theorem cellsL_one (h1 : ∀ x, ∀ u ∈ enc x, u.oneCell' = true) : ∀ xs : List α, ∀ u ∈ cellsL enc xs, u.oneCell' = true
  | [], u, h => by simp [cellsL] at h
  | x :: xs, u, h => by
    rw [cellsL] at h
    rcases List.mem_append.1 h with h | h
    · exact h1 x u h
    · exact cellsL_one h1 xs u h

end
theorem flatF_append {f : Nat → List Value} : ∀ m n, flatF f (m + n) = flatF f m ++ flatF (fun i => f (m + i)) n
  | m, 0 => by simp [flatF]
  | m, n + 1 => by rw [← Nat.add_assoc, flatF, flatF_append m n, flatF, List.append_assoc]
theorem flatF_ext {f g : Nat → List Value} : ∀ n, (∀ i, i < n → f i = g i) → flatF f n = flatF g n
  | 0, _ => rfl
  | n + 1, h => by rw [flatF, flatF, flatF_ext n (fun i hi => h i (by omega)), h n (by omega)]
theorem own_kept {w w' : World} {size base n : Nat} {e : TypeId} {v : Value} {cs : List Value} {row : Option Nat} (h : w.ownsRow base e size v n cs) (hg : w.grownBy w' row) (hr : ∀ g, v.ownBlock = some g → row ≠ some g) : w'.ownsRow base e size v n cs := by
  refine h.kept hg ?_
  rcases h.2 with ⟨rfl, _⟩ | ⟨g, cap, cur, rfl, _⟩
  · exact Or.inl rfl
  · exact Or.inr fun eq => hr g rfl eq.symm
theorem own_after {w w' : World} {size base n : Nat} {e : TypeId} {v : Value} {cs : List Value} (h : w.ownsRow base e size v n cs) (hb : Below w.heap.size w w') : w'.ownsRow base e size v n cs :=
  own_kept h (below_row hb none) (by simp)

section
variable {α : Type} [Inhabited α] {enc : α → List Value} {size : Nat} {w w' : World}

/-- The record at place i. -/
def recF (enc : α → List Value) (xs : List α) (i : Nat) : List Value := enc (xs.getD i default)
theorem recF_len (hs : ∀ x, (enc x).length = size) (xs : List α) (i : Nat) : (recF enc xs i).length = size := hs _
theorem cellsL_flatF : ∀ xs : List α, cellsL enc xs = flatF (recF enc xs) xs.length
  | [] => rfl
  | x :: xs => by
    rw [cellsL, cellsL_flatF xs, List.length_cons, Nat.add_comm, flatF_append]
    congr 1
    refine flatF_ext _ fun i _ => ?_
    unfold recF
    rw [Nat.add_comm 1 i, List.getD_cons_succ]

/-- Records in memory, one behind the other. -/
abbrev RecsAt (w : World) (a : Option Addr) (size : Nat) (enc : α → List Value) (xs : List α) : Prop := RowsAt w a xs.length size (recF enc xs)

theorem RecsAt.cell {a : Option Addr} {xs : List α} (h : RecsAt w a size enc xs) {b o : Nat} (ha : a = some ⟨b, o, none⟩) {i : Nat} (hi : i < xs.length) {x : α} (hx : xs[i]? = some x) {j : Nat} {v : Value} (hv : (enc x)[j]? = some v) : w.cell? ⟨b, o + i * size + j, none⟩ = some v := by
  obtain ⟨b', o', e, hc⟩ := h (by omega)
  rw [ha] at e
  cases e
  refine hc i hi j v ?_
  unfold recF
  rw [List.getD_eq_getElem?_getD, hx]
  exact hv
theorem RecsAt.src {a : Option Addr} {xs : List α} (h : RecsAt w a size enc xs) (hs : ∀ x, (enc x).length = size) {x : Addr} (hx : a = some x) : ∀ (j : Nat) (u : Value), (cellsL enc xs)[j]? = some u → w.cell? (x.add j) = some u := by
  rw [cellsL_flatF]
  exact RowsAt.cells h (recF_len hs xs) hx

/-- What the call owns, as records. -/
theorem owned_recs {base : Nat} {e : TypeId} {n : Nat} {v : Value} {xs : List α} (hs : ∀ x, (enc x).length = size) (h : w.ownsRow base e size v n (cellsL enc xs)) (hn : xs.length = n) :
    ∃ a cap, v = .slice a n cap ∧ (a = none → n = 0 ∧ cap = 0) ∧ n ≤ cap ∧ cap ≤ maxLen ∧ (∀ x, a = some x → base ≤ x.block ∧ x.block < w.heap.size) ∧ RecsAt w a size enc xs := by
  subst hn
  rw [cellsL_flatF] at h
  exact owned_rows (recF_len hs xs) h

/-- One's own row, as the sort asks for it. -/
theorem holds_own {base n : Nat} {e : TypeId} {v : Value} {xs : List α} (hs : ∀ x, (enc x).length = size) (h : w.ownsRow base e size v n (cellsL enc xs)) (hn : xs.length = n) (h0 : 0 < n) :
    ∃ g cap, v = .slice (some ⟨g, 0, none⟩) n cap ∧ base ≤ g ∧ g < w.heap.size ∧ n ≤ cap ∧ cap ≤ maxLen ∧ HoldsK enc size w g 0 xs.toArray := by
  rcases h.2 with ⟨e0, e1⟩ | ⟨g, cap, cur, rfl, hb, hg, hnc, hm, hsz, ht⟩
  · exact absurd e1 (by omega)
  · have hlt : g < w.heap.size := (Array.getElem?_eq_some_iff.1 hg).1
    refine ⟨g, cap, rfl, hb, hlt, hnc, hm, fun j hj => ?_⟩
    rw [size_flatK] at hj
    have hsz2 : xs.toArray.size = n := by simpa using hn
    rw [hsz2] at hj
    refine ⟨?_, by simp [World.frozen?, hg]⟩
    have hpos : 0 < size := by
      rcases Nat.eq_zero_or_pos size with h | h
      · subst h; simp at hj
      · exact h
    have hj2 : j / size < n := by rw [Nat.div_lt_iff_lt_mul hpos]; exact hj
    have hmod : j % size < size := Nat.mod_lt _ hpos
    rw [get_flatK _ _ _ _ (by rw [hsz2]; exact hj), Nat.zero_add, h.cellAt j hj]
    have e1 : xs.toArray[j / size]! = xs.getD (j / size) default := by
      rw [getElem!_pos xs.toArray _ (by rw [hsz2]; exact hj2), List.getElem_toArray, List.getD_eq_getElem?_getD, List.getElem?_eq_getElem (by omega)]
      rfl
    rw [e1, cellsL_flatF]
    have e2 : (recF enc xs (j / size))[j % size]? = some ((enc (xs.getD (j / size) default))[j % size]!) := by
      unfold recF
      rw [getElem!_pos _ _ (by rw [hs]; exact hmod), List.getElem?_eq_getElem (by rw [hs]; exact hmod)]
    have e3 := flatF_get (recF_len hs xs) xs.length (j / size) (by omega) (j % size) _ e2
    have e4 : j / size * size + j % size = j := by rw [Nat.mul_comm]; exact Nat.div_add_mod j size
    rw [e4] at e3
    rw [e3]
    rfl

/-- A row that a sort holds, as records. -/
theorem recs_holds {g : Nat} {d : Array α} (hs : ∀ x, (enc x).length = size) (h : HoldsK enc size w g 0 d) : RecsAt w (some ⟨g, 0, none⟩) size enc d.toList := by
  intro hl
  refine ⟨g, 0, rfl, fun i hi j v hv => ?_⟩
  have hi' : i < d.size := by simpa using hi
  unfold recF at hv
  have hj : j < size := by
    have := (List.getElem?_eq_some_iff.1 hv).1
    rwa [hs] at this
  have := (h.cell (c := j) hi' hj).1
  rw [this]
  have e1 : d.toList.getD i default = d[i]! := by
    rw [getElem!_pos d i hi', List.getD_eq_getElem?_getD, List.getElem?_eq_getElem (by simpa using hi')]
    simp
  rw [e1] at hv
  rw [getElem!_pos _ _ (by rw [hs]; exact hj)]
  rw [List.getElem?_eq_getElem (by rw [hs]; exact hj)] at hv
  exact hv
end
theorem grown_sortedK {α : Type} [Inhabited α] {enc : α → List Value} {size : Nat} {w : World} {g m : Nat} {d : Array α} {os : Array Obj} : w.grownBy (sortWorldK enc size w g 0 m d os) (some g) := by
  unfold sortWorldK putRowK
  refine ⟨rfl, rfl, rfl, by simp, fun k hk hne => ?_⟩
  rw [heap_grow_old _ _ (by simpa using hk)]
  have : g ≠ k := fun e => hne (by rw [e])
  simp [putRow, mapBlock, Sort.ahead, Array.getElem?_modify, this]
end Go.Proofs.YtmjgcenhgpkhiaaDoor
