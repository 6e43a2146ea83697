/- Rows of records in memory, as lists of a type of one's own; what a sort of one's own row leaves. Over any program. -/
import Derived.Test.YtmjgcenhgpkhiaaDoorGen
import Derived.Shelf.GgSortFunc.RowK
import Derived.Shelf.SlSortCmp.InsertionK
import Derived.Deep.AppendLies
namespace Go.Proofs.YtmjgcenhgpkhiaaDoor
open Go.RowKit Go.Sort
set_option linter.unusedVariables false
set_option linter.unusedSimpArgs false

section
variable {α : Type} {enc : α → List Value} {size : Nat}

/-- Records as cells. -/
def cellsL (enc : α → List Value) : List α → List Value
  | [] => []
  | x :: xs => enc x ++ cellsL enc xs
theorem cellsL_append (xs ys : List α) : cellsL enc (xs ++ ys) = cellsL enc xs ++ cellsL enc ys := by
  induction xs with
  | nil => rfl
  | cons x xs ih => rw [List.cons_append, cellsL, ih, cellsL, List.append_assoc]
theorem cellsL_snoc (xs : List α) (x : α) : cellsL enc (xs ++ [x]) = cellsL enc xs ++ enc x := by
  rw [cellsL_append]
  simp [cellsL]
theorem cellsL_len (hs : ∀ x, (enc x).length = size) : ∀ xs : List α, (cellsL enc xs).length = xs.length * size
  | [] => by simp [cellsL]
  | x :: xs => by rw [cellsL, List.length_append, hs, cellsL_len hs xs, List.length_cons, Nat.succ_mul, Nat.add_comm]
theorem cellsL_one (h1 : ∀ x, ∀ u ∈ enc x, u.oneCell' = true) : ∀ xs : List α, ∀ u ∈ cellsL enc xs, u.oneCell' = true
  | [], u, h => by simp [cellsL] at h
  | x :: xs, u, h => by
    rw [cellsL] at h
    rcases List.mem_append.1 h with h | h
    · exact h1 x u h
    · exact cellsL_one h1 xs u h

end
theorem flatF_append {f : Nat → List Value} : ∀ m n, flatF f (m + n) = flatF f m ++ flatF (fun i => f (m + i)) n
  | m, 0 => by simp [flatF]
  | m, n + 1 => by rw [← Nat.add_assoc, flatF, flatF_append m n, flatF, List.append_assoc]
theorem flatF_ext {f g : Nat → List Value} : ∀ n, (∀ i, i < n → f i = g i) → flatF f n = flatF g n
  | 0, _ => rfl
  | n + 1, h => by rw [flatF, flatF, flatF_ext n (fun i hi => h i (by omega)), h n (by omega)]
theorem own_kept {w w' : World} {size base n : Nat} {e : TypeId} {v : Value} {cs : List Value} {row : Option Nat} (h : w.ownsRow base e size v n cs) (hg : w.grownBy w' row) (hr : ∀ g, v.ownBlock = some g → row ≠ some g) : w'.ownsRow base e size v n cs := by
  refine h.kept hg ?_
  rcases h.2 with ⟨rfl, _⟩ | ⟨g, cap, cur, rfl, _⟩
  · exact Or.inl rfl
  · exact Or.inr fun eq => hr g rfl eq.symm
theorem own_after {w w' : World} {size base n : Nat} {e : TypeId} {v : Value} {cs : List Value} (h : w.ownsRow base e size v n cs) (hb : Below w.heap.size w w') : w'.ownsRow base e size v n cs :=
  own_kept h (below_row hb none) (by simp)

section
variable {α : Type} [Inhabited α] {enc : α → List Value} {size : Nat} {w w' : World}

/-- The record at place i. -/
def recF (enc : α → List Value) (xs : List α) (i : Nat) : List Value := enc (xs.getD i default)
theorem recF_len (hs : ∀ x, (enc x).length = size) (xs : List α) (i : Nat) : (recF enc xs i).length = size := hs _
theorem cellsL_flatF : ∀ xs : List α, cellsL enc xs = flatF (recF enc xs) xs.length
  | [] => rfl
  | x :: xs => by
    rw [cellsL, cellsL_flatF xs, List.length_cons, Nat.add_comm, flatF_append]
    congr 1
    refine flatF_ext _ fun i _ => ?_
    unfold recF
    rw [Nat.add_comm 1 i, List.getD_cons_succ]

/-- Records in memory, one behind the other. -/
abbrev RecsAt (w : World) (a : Option Addr) (size : Nat) (enc : α → List Value) (xs : List α) : Prop := RowsAt w a xs.length size (recF enc xs)

theorem RecsAt.cell {a : Option Addr} {xs : List α} (h : RecsAt w a size enc xs) {b o : Nat} (ha : a = some ⟨b, o, none⟩) {i : Nat} (hi : i < xs.length) {x : α} (hx : xs[i]? = some x) {j : Nat} {v : Value} (hv : (enc x)[j]? = some v) : w.cell? ⟨b, o + i * size + j, none⟩ = some v := by
  obtain ⟨b', o', e, hc⟩ := h (by omega)
  rw [ha] at e
  cases e
  refine hc i hi j v ?_
  unfold recF
  rw [List.getD_eq_getElem?_getD, hx]
  exact hv
theorem RecsAt.src {a : Option Addr} {xs : List α} (h : RecsAt w a size enc xs) (hs : ∀ x, (enc x).length = size) {x : Addr} (hx : a = some x) : ∀ (j : Nat) (u : Value), (cellsL enc xs)[j]? = some u → w.cell? (x.add j) = some u := by
  rw [cellsL_flatF]
  exact RowsAt.cells h (recF_len hs xs) hx

/-- What the call owns, as records. -/
theorem owned_recs {base : Nat} {e : TypeId} {n : Nat} {v : Value} {xs : List α} (hs : ∀ x, (enc x).length = size) (h : w.ownsRow base e size v n (cellsL enc xs)) (hn : xs.length = n) :
    ∃ a cap, v = .slice a n cap ∧ (a = none → n = 0 ∧ cap = 0) ∧ n ≤ cap ∧ cap ≤ maxLen ∧ (∀ x, a = some x → base ≤ x.block ∧ x.block < w.heap.size) ∧ RecsAt w a size enc xs := by
  subst hn
  rw [cellsL_flatF] at h
  exact owned_rows (recF_len hs xs) h

/-- One's own row, as the sort asks for it. -/
theorem holds_own {base n : Nat} {e : TypeId} {v : Value} {xs : List α} (hs : ∀ x, (enc x).length = size) (h : w.ownsRow base e size v n (cellsL enc xs)) (hn : xs.length = n) (h0 : 0 < n) :
    ∃ g cap, v = .slice (some ⟨g, 0, none⟩) n cap ∧ base ≤ g ∧ g < w.heap.size ∧ n ≤ cap ∧ cap ≤ maxLen ∧ HoldsK enc size w g 0 xs.toArray := by
  rcases h.2 with ⟨e0, e1⟩ | ⟨g, cap, cur, rfl, hb, hg, hnc, hm, hsz, ht⟩
  · exact absurd e1 (by omega)
  · have hlt : g < w.heap.size := (Array.getElem?_eq_some_iff.1 hg).1
    refine ⟨g, cap, rfl, hb, hlt, hnc, hm, fun j hj => ?_⟩
    rw [size_flatK] at hj
    have hsz2 : xs.toArray.size = n := by simpa using hn
    rw [hsz2] at hj
    refine ⟨?_, by simp [World.frozen?, hg]⟩
    have hpos : 0 < size := by
      rcases Nat.eq_zero_or_pos size with h | h
      · subst h; simp at hj
      · exact h
    have hj2 : j / size < n := by rw [Nat.div_lt_iff_lt_mul hpos]; exact hj
    have hmod : j % size < size := Nat.mod_lt _ hpos
    rw [get_flatK _ _ _ _ (by rw [hsz2]; exact hj), Nat.zero_add, h.cellAt j hj]
    have e1 : xs.toArray[j / size]! = xs.getD (j / size) default := by
      rw [getElem!_pos xs.toArray _ (by rw [hsz2]; exact hj2), List.getElem_toArray, List.getD_eq_getElem?_getD, List.getElem?_eq_getElem (by omega)]
      rfl
    rw [e1, cellsL_flatF]
    have e2 : (recF enc xs (j / size))[j % size]? = some ((enc (xs.getD (j / size) default))[j % size]!) := by
      unfold recF
      rw [getElem!_pos _ _ (by rw [hs]; exact hmod), List.getElem?_eq_getElem (by rw [hs]; exact hmod)]
    have e3 := flatF_get (recF_len hs xs) xs.length (j / size) (by omega) (j % size) _ e2
    have e4 : j / size * size + j % size = j := by rw [Nat.mul_comm]; exact Nat.div_add_mod j size
    rw [e4] at e3
    rw [e3]
    rfl

/-- A row that a sort holds, as records. -/
theorem recs_holds {g : Nat} {d : Array α} (hs : ∀ x, (enc x).length = size) (h : HoldsK enc size w g 0 d) : RecsAt w (some ⟨g, 0, none⟩) size enc d.toList := by
  intro hl
  refine ⟨g, 0, rfl, fun i hi j v hv => ?_⟩
  have hi' : i < d.size := by simpa using hi
  unfold recF at hv
  have hj : j < size := by
    have := (List.getElem?_eq_some_iff.1 hv).1
    rwa [hs] at this
  have := (h.cell (c := j) hi' hj).1
  rw [this]
  have e1 : d.toList.getD i default = d[i]! := by
    rw [getElem!_pos d i hi', List.getD_eq_getElem?_getD, List.getElem?_eq_getElem (by simpa using hi')]
    simp
  rw [e1] at hv
  rw [getElem!_pos _ _ (by rw [hs]; exact hj)]
  rw [List.getElem?_eq_getElem (by rw [hs]; exact hj)] at hv
  exact hv
end
theorem grown_sortedK {α : Type} [Inhabited α] {enc : α → List Value} {size : Nat} {w : World} {g m : Nat} {d : Array α} {os : Array Obj} : w.grownBy (sortWorldK enc size w g 0 m d os) (some g) := by
  unfold sortWorldK putRowK
  refine ⟨rfl, rfl, rfl, by simp, fun k hk hne => ?_⟩
  rw [heap_grow_old _ _ (by simpa using hk)]
  have : g ≠ k := fun e => hne (by rw [e])
  simp [putRow, mapBlock, Sort.ahead, Array.getElem?_modify, this]
end Go.Proofs.YtmjgcenhgpkhiaaDoor
