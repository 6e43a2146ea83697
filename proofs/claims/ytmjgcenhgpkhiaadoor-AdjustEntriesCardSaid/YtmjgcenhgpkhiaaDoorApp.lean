/- Slices whose records are known; append of such a slice onto a row of one's own. Over any program. -/
import Derived.Test.YtmjgcenhgpkhiaaDoorRec
import Derived.Test.YtmjgcenhgpkhiaaDoorTurn
import Derived.Laws.AppendOwnNone
namespace Go.Proofs.YtmjgcenhgpkhiaaDoor
open Go.RowKit
set_option linter.unusedVariables false
set_option linter.unusedSimpArgs false

section
variable {α : Type} [Inhabited α] {P : Program} {w w' : World} {size : Nat} {enc : α → List Value}

/-- A slice whose records are known. -/
structure SlAt (w : World) (size : Nat) (enc : α → List Value) (a : Option Addr) (cap : Nat) (xs : List α) : Prop where
  recs : RecsAt w a size enc xs
  le : xs.length ≤ cap
  max : cap ≤ maxLen
  sh : (a = none ∧ xs = [] ∧ cap = 0) ∨ ∃ b o, a = some ⟨b, o, none⟩ ∧ b < w.heap.size
theorem SlAt.lt {a : Option Addr} {cap : Nat} {xs : List α} (h : SlAt w size enc a cap xs) : ∀ x, a = some x → x.block < w.heap.size := fun x e => by
  rcases h.sh with ⟨e1, _⟩ | ⟨b, o, e1, hb⟩
  · rw [e1] at e; cases e
  · rw [e1] at e; cases e; exact hb
theorem SlAt.turn {bs : List Nat} {a : Option Addr} {cap : Nat} {xs : List α} (h : SlAt w size enc a cap xs) (ht : Turn bs w w') (hb : ∀ x, a = some x → x.block ∉ bs) : SlAt w' size enc a cap xs :=
  ⟨ht.rows h.recs h.lt hb, h.le, h.max, h.sh.imp id fun ⟨b, o, e, hl⟩ => ⟨b, o, e, by have := ht.size; omega⟩⟩
theorem SlAt.after {a : Option Addr} {cap : Nat} {xs : List α} (h : SlAt w size enc a cap xs) (hb : Below w.heap.size w w') : SlAt w' size enc a cap xs := h.turn (bs := []) (Turn.of_below hb) (by simp)
theorem SlAt.nil (w : World) : SlAt w size enc none 0 ([] : List α) := ⟨RowsAt.nil _ _ _ _, Nat.le_refl _, Nat.zero_le _, .inl ⟨rfl, rfl, rfl⟩⟩
theorem RecsAt.takeR {b o : Nat} {l : List α} (h : RecsAt w (some ⟨b, o, none⟩) size enc l) (A : Nat) : RecsAt w (some ⟨b, o, none⟩) size enc (l.take A) := by
  intro h0
  rw [List.length_take] at h0
  obtain ⟨b', o', e, hc⟩ := h (by omega)
  refine ⟨b', o', e, fun i hi j v hv => hc i (by rw [List.length_take] at hi; omega) j v ?_⟩
  unfold recF at hv ⊢
  rw [List.length_take] at hi
  rw [List.getD_eq_getElem?_getD, List.getElem?_take_of_lt (by omega)] at hv
  rw [List.getD_eq_getElem?_getD]
  exact hv
theorem RecsAt.dropR {b o : Nat} {l : List α} (h : RecsAt w (some ⟨b, o, none⟩) size enc l) (A : Nat) : RecsAt w (some ⟨b, o + A * size, none⟩) size enc (l.drop A) := by
  intro h0
  rw [List.length_drop] at h0
  obtain ⟨b', o', e, hc⟩ := h (by omega)
  cases e
  refine ⟨b, o + A * size, rfl, fun i hi j v hv => ?_⟩
  rw [List.length_drop] at hi
  have := hc (A + i) (by omega) j v (by
    unfold recF at hv ⊢
    rw [List.getD_eq_getElem?_getD, List.getElem?_drop] at hv
    rw [List.getD_eq_getElem?_getD]
    exact hv)
  rw [Nat.add_mul] at this
  rw [show o + A * size + i * size = o + (A * size + i * size) by omega]
  exact this
/-- What one owns, as a slice. -/
theorem sl_own {base : Nat} {e : TypeId} {v : Value} {xs : List α} (hs : ∀ x, (enc x).length = size) (h : w.ownsRow base e size v xs.length (cellsL enc xs)) : ∃ a cap, v = .slice a xs.length cap ∧ SlAt w size enc a cap xs ∧ ∀ x, a = some x → base ≤ x.block ∧ x.block < w.heap.size := by
  obtain ⟨a, cap, rfl, h1, h2, h3, h4, h5⟩ := owned_recs hs h rfl
  refine ⟨a, cap, rfl, ⟨h5, h2, h3, ?_⟩, h4⟩
  cases a with
  | none => exact .inl ⟨rfl, List.length_eq_zero_iff.1 (h1 rfl).1, (h1 rfl).2⟩
  | some x =>
    right
    rcases h.2 with ⟨e0, _⟩ | ⟨g, cap', cur, e1, hb, hg, _⟩
    · simp at e0
    · simp only [Value.slice.injEq, Option.some.injEq, true_and] at e1
      exact ⟨g, 0, by rw [e1.1], (Array.getElem?_eq_some_iff.1 hg).1⟩
/-- append(s, x...) -/
theorem wpList_append_recs {ops : Array Oper} {rest : List Oper} {o : Oper} {a : Act} {Q : Exit → Act → World → Prop} (hgd : o.guard = none) (s x : Operand) (t : TypeId)
    (ho : o.op = .call { callee := .builtin .append, args := #[s, x], argTypes := #[t, t] })
    (base : Nat) (e : TypeId) (i : TypeInfo) (z : Value) (bytes : Nat) (ht : P.underlying t = some (.slice e)) (hi : P.info? e = some i) (hz : i.zero = some z)
    (hsize : i.size = size) (hby : i.bytes = bytes) (hzs : z.cells.size = size) (hsz : 0 < size) (hs0 : ∀ x, (enc x).length = size) (h1 : ∀ x, ∀ u ∈ enc x, u.oneCell' = true)
    (v : Value) (n : Nat) (xs : List α) (hs : a.eval s = v) (hn : n = xs.length) (hown : w.ownsRow base e size v n (cellsL enc xs))
    (c : Option Addr) (L cap : Nat) (ys : List α) (hx : a.eval x = .slice c L cap) (hR : RecsAt w c size enc ys) (hL : L = ys.length) (hc : c = none → L = 0 ∧ cap = 0)
    (h63 : n + L ≤ maxLen) (hbytes : (n + L) * bytes ≤ 140737488355328) (hbase : base ≤ w.heap.size)
    (h : ∀ v' w', w'.ownsRow base e size v' (n + L) (cellsL enc (xs ++ ys)) → Below base w w' → wpList P ops Q rest (a.put o.dst v') w') :
    wpList P ops Q (o :: rest) a w := by
  subst hL hn
  cases c with
  | none =>
    obtain ⟨q4, rfl⟩ := hc rfl
    obtain rfl : ys = [] := List.length_eq_zero_iff.1 q4
    refine wpList_append_own_none hgd s x t ho base e i size ht hi v xs.length (cellsL enc xs) hs hown hx (h v w ?_ (Below.refl _ _))
    rw [List.append_nil]
    exact hown
  | some y =>
    refine wpList_append_own w hgd s x t ho base e i z size bytes ht hi hz hsize hby hzs hsz v xs.length (cellsL enc xs) hs hown y ys.length cap (cellsL enc ys) hx (cellsL_len hs0 ys) (RecsAt.src hR hs0 rfl) (cellsL_one h1 ys) h63 hbytes hbase fun v' w' g1 g2 _ => h v' w' (by rw [cellsL_append]; exact g1) ?_
    exact (Below.refl base w).grown g2 hbase (fun q e => (own_cells hown e).1)
end

end Go.Proofs.YtmjgcenhgpkhiaaDoor
