/- Readings of arguments, opened in one way for any type: a value of structs and arrays as its row of one-cell leaves; a slice as its elements' rows. Over any program. -/
import Derived.ProofKit
import Derived.WalkKit
import Derived.OpenShut
import Derived.Below
import Derived.WalkSmall
import Derived.Lib.Hide
import Derived.OwnWalk
import Derived.Laws.OwnMore
namespace Go.Proofs.YtmjgcenhgpkhiaaDoor
open Go.ChangeShapes Go.WideShapes Go.ChangeAt Go.RowKit
set_option linter.unusedVariables false
set_option linter.unusedSimpArgs false

section
variable {H : Type} {enc : TypeId × Value → H} {P : Program} {w : World} {base : Nat} {spare : Nat → Bool} {held : Bool}

/-- A row of cells, each under a word of its leaf's type. -/
def CellsAre (R : TypeId → Value → Prop) : List TypeId → List Value → Prop
  | [], [] => True
  | t :: ts, c :: cs => R t c ∧ CellsAre R ts cs
  | _, _ => False

theorem CellsAre.nil {R : TypeId → Value → Prop} {cs : List Value} (h : CellsAre R [] cs) : cs = [] := by
  cases cs with
  | nil => rfl
  | cons c cs => exact h.elim

theorem CellsAre.cons {R : TypeId → Value → Prop} {t : TypeId} {ts : List TypeId} {cs : List Value} (h : CellsAre R (t :: ts) cs) : ∃ c cs', cs = c :: cs' ∧ R t c ∧ CellsAre R ts cs' := by
  cases cs with
  | nil => exact h.elim
  | cons c cs => exact ⟨c, cs, rfl, h.1, h.2⟩

theorem CellsAre.length {R : TypeId → Value → Prop} : ∀ {ts : List TypeId} {cs : List Value}, CellsAre R ts cs → cs.length = ts.length
  | [], [], _ => rfl
  | [], _ :: _, h => h.elim
  | _ :: _, [], h => h.elim
  | _ :: ts, _ :: cs, h => by simp [CellsAre.length h.2]

theorem CellsAre.append {R : TypeId → Value → Prop} : ∀ {ts us : List TypeId} {cs ds : List Value}, CellsAre R ts cs → CellsAre R us ds → CellsAre R (ts ++ us) (cs ++ ds)
  | [], us, [], ds, _, h => h
  | [], _, _ :: _, _, h, _ => h.elim
  | _ :: _, _, [], _, h, _ => h.elim
  | _ :: ts, us, _ :: cs, ds, h, k => ⟨h.1, CellsAre.append h.2 k⟩

/-- What a leaf is known to be: its one cell has a reading. -/
def LeafOk (enc : TypeId × Value → H) (P : Program) (w : World) (base : Nat) (spare : Nat → Bool) (held : Bool) (t : TypeId) (c : Value) : Prop :=
  ∃ m y, DataW.trod enc P w base spare held m t [c] = some y

/-- A type's leaves, in the order of its cells; none: it is not laid out so. -/
def flatFields (g : TypeId → Option (List TypeId)) : Nat → List Field → Option (List TypeId)
  | _, [] => some []
  | off, f :: fs => match g f.type, flatFields g (off + ((g f.type).getD []).length) fs with
    | some l, some r => if f.offset = off then some (l ++ r) else none
    | _, _ => none

def flat (P : Program) : Nat → TypeId → Option (List TypeId)
  | 0, _ => none
  | d + 1, t => match P.underlying t with
    | some (.struct fs) => match flatFields (flat P d) 0 fs.toList with
      | some l => if P.cellsOf t = l.length then some l else none
      | none => none
    | some (.array n e) => match flat P d e with
      | some l => if P.cellsOf t = n * l.length then some (List.replicate n l).flatten else none
      | none => none
    | some (.int _) | some .bool | some .string | some (.slice _) | some (.pointer _) | some (.map _ _) => if P.cellsOf t = 1 then some [t] else none
    | _ => none

theorem flat_cellsOf : ∀ (d : Nat) (t : TypeId) (l : List TypeId), flat P d t = some l → P.cellsOf t = l.length
  | 0, _, _, h => by simp [flat] at h
  | d + 1, t, l, h => by
    unfold flat at h
    split at h
    · split at h
      · split at h
        · simp only [Option.some.injEq] at h; subst h; assumption
        · cases h
      · cases h
    · split at h
      · split at h
        · simp only [Option.some.injEq] at h; subst h; simpa using ‹_›
        · cases h
      · cases h
    all_goals first
      | (split at h
         · simp only [Option.some.injEq] at h; subst h; assumption
         · cases h)
      | cases h

theorem flatFields_ok {d : Nat} (ih : ∀ (fuel : Nat) (t : TypeId) (l : List TypeId) (cs : List Value) (x : DataW H × List MemPlace), flat P d t = some l → DataW.trod enc P w base spare held fuel t cs = some x → CellsAre (LeafOk enc P w base spare held) l cs)
    (n : Nat) (cs : List Value) : ∀ (fs : List Field) (off : Nat) (l : List TypeId), flatFields (flat P d) off fs = some l →
    (∀ (i : Nat) (f : Field), fs[i]? = some f → ∃ y, DataW.trod enc P w base spare held n f.type ((cs.drop f.offset).take (P.cellsOf f.type)) = some y) → CellsAre (LeafOk enc P w base spare held) l ((cs.drop off).take l.length)
  | [], off, l, h, _ => by
    simp only [flatFields, Option.some.injEq] at h
    subst h
    simp [CellsAre]
  | f :: fs, off, l, h, hf => by
    unfold flatFields at h
    split at h
    · rename_i l0 r0 e0 e1
      split at h
      · rename_i ho
        simp only [Option.some.injEq] at h
        subst h
        obtain ⟨y, hy⟩ := hf 0 f rfl
        have h0 := ih n f.type l0 _ y e0 hy
        rw [flat_cellsOf d _ _ e0, ho] at h0
        rw [e0] at e1
        have h1 := flatFields_ok ih n cs fs (off + l0.length) r0 e1 (fun i g hg => hf (i + 1) g (by simpa using hg))
        have hs : (cs.drop off).take (l0 ++ r0).length = (cs.drop off).take l0.length ++ (cs.drop (off + l0.length)).take r0.length := by
          rw [List.length_append, List.take_add, List.drop_drop]
        rw [hs]
        exact h0.append h1
      · cases h
    · cases h

theorem array_ok {d : Nat} {e : TypeId} {l : List TypeId} (ih : ∀ (fuel : Nat) (t : TypeId) (l : List TypeId) (cs : List Value) (x : DataW H × List MemPlace), flat P d t = some l → DataW.trod enc P w base spare held fuel t cs = some x → CellsAre (LeafOk enc P w base spare held) l cs)
    (he : flat P d e = some l) (m : Nat) (cs : List Value) : ∀ (n : Nat) (i : Nat), (∀ j, j < n → ∃ y, DataW.trod enc P w base spare held m e ((cs.drop ((i + j) * l.length)).take l.length) = some y) →
    CellsAre (LeafOk enc P w base spare held) (List.replicate n l).flatten ((cs.drop (i * l.length)).take (n * l.length))
  | 0, i, _ => by simp [CellsAre]
  | n + 1, i, h => by
    obtain ⟨y, hy⟩ := h 0 (by omega)
    have h0 := ih m e l _ y he hy
    have h1 := array_ok ih he m cs n (i + 1) (fun j hj => by have := h (j + 1) (by omega); rwa [show i + (j + 1) = i + 1 + j from by omega] at this)
    rw [List.replicate_succ, List.flatten_cons]
    have hs : (cs.drop (i * l.length)).take ((n + 1) * l.length) = (cs.drop (i * l.length)).take l.length ++ (cs.drop ((i + 1) * l.length)).take (n * l.length) := by
      rw [show (n + 1) * l.length = l.length + n * l.length from by rw [Nat.add_mul]; omega, List.take_add, List.drop_drop, show i * l.length + l.length = (i + 1) * l.length from by rw [Nat.add_mul]; omega]
    rw [hs]
    exact h0.append h1

/-- THE LEAVES OF A READING. -/
theorem flat_ok : ∀ (d : Nat) (fuel : Nat) (t : TypeId) (l : List TypeId) (cs : List Value) (x : DataW H × List MemPlace), flat P d t = some l → DataW.trod enc P w base spare held fuel t cs = some x → CellsAre (LeafOk enc P w base spare held) l cs
  | 0, _, _, _, _, _, h, _ => by simp [flat] at h
  | d + 1, fuel, t, l, cs, x, h, hx => by
    have hc := flat_cellsOf _ _ _ h
    have hxx := hx
    unfold flat at h
    split at h
    · rename_i fs hu
      split at h
      · rename_i l' hl
        split at h
        · simp only [Option.some.injEq] at h
          subst h
          obtain ⟨xs, n, _, _, hlen, hxs, hf⟩ := DataW.trod_struct hu hx
          have := flatFields_ok (flat_ok d) n cs fs.toList 0 l' hl (fun i f hif => by
            have h1 := hf i f (by simpa using hif)
            have h2 : i < xs.length := by
              rw [hxs]
              have := (List.getElem?_eq_some_iff.1 hif).1
              simpa using this
            rw [List.getElem?_eq_getElem h2] at h1
            exact ⟨_, h1⟩)
          rw [List.drop_zero, List.take_of_length_le (by omega)] at this
          exact this
        · cases h
      · cases h
    · rename_i n e hu
      split at h
      · rename_i l' hl
        split at h
        · simp only [Option.some.injEq] at h
          subst h
          obtain ⟨xs, m, _, _, hlen, hxs, hf⟩ := DataW.trod_array hu hx
          have hce := flat_cellsOf _ _ _ hl
          have := array_ok (flat_ok d) hl m cs n 0 (fun j hj => by
            have h1 := hf j hj
            rw [hce] at h1
            rw [List.getElem?_eq_getElem (by omega)] at h1
            exact ⟨_, by rw [Nat.zero_add]; exact h1⟩)
          rw [Nat.zero_mul, List.drop_zero, List.take_of_length_le (by rw [hlen]; omega)] at this
          exact this
        · cases h
      · cases h
    all_goals first
      | cases h; done
      | (rename_i hu
         split at h
         · simp only [Option.some.injEq] at h
           subst h
           have : ∃ c, cs = [c] := by
             cases fuel with
             | zero => simp [DataW.trod] at hx
             | succ k =>
               unfold DataW.trod at hx
               rw [hu] at hx
               match cs, hx with
               | [c], _ => exact ⟨c, rfl⟩
               | [], hx => simp at hx
               | _ :: _ :: _, hx => simp at hx
           obtain ⟨c, rfl⟩ := this
           exact ⟨⟨_, _, hxx⟩, trivial⟩
         · cases h)

/-! ### The leaves, opened -/
theorem LeafOk.int {t : TypeId} {k : IntKind} {c : Value} (hu : P.underlying t = some (.int k)) (h : LeafOk enc P w base spare held t c) : ∃ n, c = .int k n ∧ (Lit.int k n).wf = true := by
  obtain ⟨m, y, hy⟩ := h
  obtain ⟨n, e, _, hw⟩ := DataW.trod_int hu hy
  simp only [List.cons.injEq, and_true] at e
  exact ⟨n, e, hw⟩

theorem LeafOk.bool {t : TypeId} {c : Value} (hu : P.underlying t = some .bool) (h : LeafOk enc P w base spare held t c) : ∃ b, c = .bool b := by
  obtain ⟨m, y, hy⟩ := h
  obtain ⟨b, e, _⟩ := DataW.trod_bool hu hy
  simp only [List.cons.injEq, and_true] at e
  exact ⟨b, e⟩

theorem LeafOk.string {t : TypeId} {c : Value} (hu : P.underlying t = some .string) (h : LeafOk enc P w base spare held t c) : ∃ s : ByteArray, c = .string s ∧ s.size ≤ maxLen := by
  obtain ⟨m, y, hy⟩ := h
  obtain ⟨s, e, _, hs⟩ := DataW.trod_string hu hy
  simp only [List.cons.injEq, and_true] at e
  exact ⟨s, e, hs⟩

theorem cells?_get {a : Addr} {n : Nat} {cs : List Value} (h : w.cells? base a n = some cs) : cs.length = n ∧ ∀ j, j < n → w.cell? (a.add j) = cs[j]? := by
  unfold World.cells? at h
  split at h
  · have h1 : cs.length = n := by simpa using mapM_some_length h
    exact ⟨h1, fun j hj => mapM_some_get h j j (by simp [hj])⟩
  · cases h

/-- A slice's elements: their rows of leaves, at their places. -/
def ElemsAre (enc : TypeId × Value → H) (P : Program) (w : World) (base : Nat) (spare : Nat → Bool) (held : Bool) (ls : List TypeId) (a : Addr) (len : Nat) : Prop :=
  ∀ i, i < len → ∃ cs, CellsAre (LeafOk enc P w base spare held) ls cs ∧ ∀ j, j < ls.length → w.cell? (a.add (i * ls.length + j)) = cs[j]?

theorem add_add (a : Addr) (i j : Nat) : (a.add i).add j = a.add (i + j) := by
  unfold Addr.add
  by_cases h1 : i = 0
  · simp [h1]
  · by_cases h2 : j = 0
    · simp [h1, h2]
    · simp [h1, h2]; omega

theorem LeafOk.slice {t e : TypeId} {c : Value} {d : Nat} {ls : List TypeId} (hu : P.underlying t = some (.slice e)) (hl : flat P d e = some ls) (h : LeafOk enc P w base spare held t c) :
    c = .slice none 0 0 ∨ ∃ (a : Addr) (len cap : Nat), c = .slice (some a) len cap ∧ len ≤ cap ∧ cap ≤ maxLen ∧ ElemsAre enc P w base spare held ls a len := by
  obtain ⟨m, y, hy⟩ := h
  rcases DataW.trod_slice hu hy with ⟨e1, _⟩ | ⟨a, len, cap, elems, rest, n, _, e1, _, _, h1, h2, h3, h4, _⟩
  · simp only [List.cons.injEq, and_true] at e1
    exact Or.inl e1
  · simp only [List.cons.injEq, and_true] at e1
    refine Or.inr ⟨a, len, cap, e1, h1, h2, fun i hi => ?_⟩
    have h5 := h4 i hi
    rw [flat_cellsOf _ _ _ hl, List.getElem?_eq_getElem (by omega)] at h5
    obtain ⟨cs, h6, h7⟩ := Option.bind_eq_some_iff.1 h5
    obtain ⟨g1, g2⟩ := cells?_get h6
    refine ⟨cs, flat_ok d n e ls cs _ hl h7, fun j hj => ?_⟩
    rw [← add_add]
    exact g2 j hj

/-- A whole argument's leaves. -/
theorem arg_leaves {t : TypeId} {v : Value} {x : DataW H} {p : List MemPlace} {d : Nat} {ls : List TypeId} (hl : flat P d t = some ls) (h : DataW.Trod enc P w base spare held t v x p) : CellsAre (LeafOk enc P w base spare held) ls v.cells.toList := by
  obtain ⟨m, hm⟩ := h
  exact flat_ok d m t ls _ _ hl hm

theorem okWide_agg {t : TypeId} {v : Value} {r : Reach} {b : Nat} (ha : (match P.underlying t with | some (.struct _) | some (.array _ _) => true | _ => false) = true) (h : Value.okWide P w r b t v) : ∃ cs, v = .agg cs := by
  unfold Value.okWide at h
  split at h
  · obtain ⟨cs, h1, _⟩ := h; exact ⟨cs, h1⟩
  · obtain ⟨cs, h1, _⟩ := h; exact ⟨cs, h1⟩
  · split at ha <;> simp_all

theorem wf_bounds {n : Int} (h : (Lit.int .i64 n).wf = true) : -9223372036854775808 ≤ n ∧ n ≤ 9223372036854775807 := by
  simpa [Lit.wf, IntKind.min, IntKind.max, IntKind.signed, IntKind.bits] using h

theorem add_plain (b o n : Nat) : (⟨b, o, none⟩ : Addr).add n = ⟨b, o + n, none⟩ := by
  unfold Addr.add
  split
  · rename_i h; subst h; rfl
  · rfl

/-- Where a slice has elements it begins at a plain place. -/
theorem elems_plain {ls : List TypeId} {a : Addr} {len : Nat} (h : ElemsAre enc P w base spare held ls a len) (h1 : 0 < ls.length) (h2 : 0 < len) : ∃ b o, a = ⟨b, o, none⟩ := by
  obtain ⟨cs, c1, c2⟩ := h 0 h2
  have c3 := c2 0 h1
  have c4 := c1.length
  simp only [Nat.zero_mul, Nat.add_zero] at c3
  have c5 : (a.add 0) = a := by unfold Addr.add; simp
  rw [c5, List.getElem?_eq_getElem (by omega)] at c3
  obtain ⟨b, o, s⟩ := a
  cases s with
  | none => exact ⟨b, o, rfl⟩
  | some s =>
    unfold World.cell? at c3
    split at c3
    · simp at c3
    · cases c3

end
end Go.Proofs.YtmjgcenhgpkhiaaDoor
namespace Go.Proofs.YtmjgcenhgpkhiaaDoor
open Go.RowKit
set_option linter.unusedVariables false
set_option linter.unusedSimpArgs false

theorem below_row {w w' : World} (h : Below w.heap.size w w') (row : Option Nat) : w.grownBy w' row := ⟨h.os, h.tape, h.output, h.size, fun k hk _ => h.block k hk⟩
theorem grown_trans {a b c : World} {row : Option Nat} (h : a.grownBy b row) (k : b.grownBy c row) : a.grownBy c row :=
  ⟨k.os.trans h.os, k.tape.trans h.tape, k.output.trans h.output, Nat.le_trans h.size k.size, fun i hi hn => (k.block i (Nat.lt_of_lt_of_le hi h.size) hn).trans (h.block i hi hn)⟩
theorem grown_setCell (w : World) (b o : Nat) (v : Value) : w.grownBy (w.setCell ⟨b, o, none⟩ v) (some b) :=
  ⟨rfl, rfl, rfl, by simp [World.setCell], fun k _ hn => Below.heap_setCell _ _ _ _ (fun e => hn (by rw [e]))⟩
theorem grown_below {w w' : World} {b : Nat} (h : w.grownBy w' (some b)) (hb : b < w.heap.size) : Below b w w' :=
  ⟨h.os, h.tape, h.output, h.size, fun k hk => h.block k (by omega) (by simp; omega)⟩
theorem grown_cell {w w' : World} {row : Option Nat} {a : Addr} {v : Value} (h : w.grownBy w' row) (hc : w.cell? a = some v) (hn : row ≠ some a.block) : w'.cell? a = some v := by
  have hl := World.block_lt_of_cell? w _ hc
  exact (World.cell?_of_block (h.block a.block hl (fun e => hn e.symm))).trans hc
theorem grown_frozen {w w' : World} {row : Option Nat} {a : Addr} {v : Value} {f : Bool} (h : w.grownBy w' row) (hc : w.cell? a = some v) (hf : w.frozen? a = f) (hn : row ≠ some a.block) : w'.frozen? a = f := by
  have hl := World.block_lt_of_cell? w _ hc
  exact (World.frozen?_of_block (h.block a.block hl (fun e => hn e.symm))).trans hf
theorem below_cell {w w' : World} {a : Addr} {v : Value} (h : Below w.heap.size w w') (hc : w.cell? a = some v) : w'.cell? a = some v := grown_cell (below_row h none) hc (by simp)
theorem below_frozen {w w' : World} {a : Addr} {v : Value} {f : Bool} (h : Below w.heap.size w w') (hc : w.cell? a = some v) (hf : w.frozen? a = f) : w'.frozen? a = f := grown_frozen (below_row h none) hc hf (by simp)
theorem below_draws {B : Nat} (w : World) (n : Nat) : Below B w (w.drewN n) := ⟨rfl, rfl, rfl, Nat.le_refl _, fun _ _ => rfl⟩

theorem ret_int {k : IntKind} {a b : Int} (h : a = b) : Ending.returned (.int k a) = .returned (.int k b) := by rw [h]
theorem ret_bool {a b : Bool} (h : a = b) : Ending.returned (.bool a) = .returned (.bool b) := by rw [h]

/-- A row of 'len' cells, one behind the other, from where a leads on (nothing is asked where len is 0). -/
def RowAt (w : World) (a : Option Addr) (len : Nat) (f : Nat → Value) : Prop :=
  0 < len → ∃ b o, a = some ⟨b, o, none⟩ ∧ ∀ i, i < len → w.cell? ⟨b, o + i, none⟩ = some (f i)

theorem RowAt.nil (w : World) (a : Option Addr) (f : Nat → Value) : RowAt w a 0 f := fun h => absurd h (by omega)
theorem RowAt.grown {w w' : World} {row : Option Nat} {a : Option Addr} {len : Nat} {f : Nat → Value} (h : RowAt w a len f) (hg : w.grownBy w' row) (hr : ∀ x, a = some x → row ≠ some x.block) : RowAt w' a len f := fun hl => by
  obtain ⟨b, o, e, hc⟩ := h hl
  have hr' := hr _ e
  exact ⟨b, o, e, fun i hi => grown_cell hg (hc i hi) hr'⟩
theorem RowAt.after {w w' : World} {a : Option Addr} {len : Nat} {f : Nat → Value} (h : RowAt w a len f) (hb : Below w.heap.size w w') : RowAt w' a len f := h.grown (below_row hb none) (by simp)
theorem RowAt.below {w w' : World} {B : Nat} {a : Option Addr} {len : Nat} {f : Nat → Value} (h : RowAt w a len f) (hb : Below B w w') (hB : ∀ x, a = some x → x.block < B) : RowAt w' a len f := fun hl => by
  obtain ⟨b, o, e, hc⟩ := h hl
  have hB' := hB _ e
  exact ⟨b, o, e, fun i hi => (hb.cell (p := ⟨b, o + i, none⟩) hB').trans (hc i hi)⟩
theorem RowAt.lt {w : World} {a : Option Addr} {len : Nat} {f : Nat → Value} (h : RowAt w a len f) (hl : 0 < len) : ∃ b o, a = some ⟨b, o, none⟩ ∧ b < w.heap.size := by
  obtain ⟨b, o, e, hc⟩ := h hl
  exact ⟨b, o, e, World.block_lt_of_cell? w _ (hc 0 hl)⟩
theorem RowAt.congr {w : World} {a : Option Addr} {len : Nat} {f g : Nat → Value} (h : RowAt w a len f) (e : ∀ i, i < len → f i = g i) : RowAt w a len g := fun hl => by
  obtain ⟨b, o, ea, hc⟩ := h hl
  exact ⟨b, o, ea, fun i hi => (hc i hi).trans (by rw [e i hi])⟩
theorem RowAt.take {w : World} {a : Option Addr} {len n : Nat} {f : Nat → Value} (h : RowAt w a len f) (hn : n ≤ len) : RowAt w a n f := fun hl => by
  obtain ⟨b, o, ea, hc⟩ := h (by omega)
  exact ⟨b, o, ea, fun i hi => hc i (by omega)⟩

/-- What the call owns, as a slice's parts. -/
theorem owned_parts {w : World} {base : Nat} {e : TypeId} {size : Nat} {v : Value} {n : Nat} {xs : List Value} (h : w.ownsRow base e size v n xs) :
    ∃ a cap, v = .slice a n cap ∧ (a = none → n = 0 ∧ cap = 0) ∧ n ≤ cap ∧ cap ≤ maxLen ∧ (∀ x, a = some x → base ≤ x.block ∧ x.block < w.heap.size) ∧ RowAt w a (n * size) (fun i => xs.getD i undef) := by
  have h0 := h
  obtain ⟨hl, h⟩ := h
  rcases h with ⟨rfl, rfl⟩ | ⟨g, cap, cur, rfl, hb, hh, hc, hm, hs, ht⟩
  · exact ⟨none, 0, rfl, fun _ => ⟨rfl, rfl⟩, Nat.le_refl _, by unfold maxLen; omega, (fun x e => by cases e), by rw [Nat.zero_mul]; exact RowAt.nil _ _ _⟩
  · refine ⟨some ⟨g, 0, none⟩, cap, rfl, (fun e => by cases e), hc, hm, (fun x e => by cases e; exact ⟨hb, (Array.getElem?_eq_some_iff.1 hh).1⟩), fun hn => ⟨g, 0, rfl, fun i hi => ?_⟩⟩
    rw [Nat.zero_add, h0.cellAt i hi]
    show xs[i]? = some (xs.getD i undef)
    rw [List.getD_eq_getElem?_getD, List.getElem?_eq_getElem (by omega)]
    rfl

/-- One new cell, as the appended value's own block. -/
theorem news_one (w : World) (v : Value) (t : TypeId) : ∀ j u, [v][j]? = some u → (w.alloc (.cells #[v] t)).cell? ((⟨w.heap.size, 0, none⟩ : Addr).add j) = some u := by
  intro j u hj
  cases j with
  | zero => simp at hj; subst hj; simp [Addr.add]
  | succ j => simp at hj

end Go.Proofs.YtmjgcenhgpkhiaaDoor
namespace Go.Proofs.YtmjgcenhgpkhiaaDoor
set_option linter.unusedVariables false
set_option linter.unusedSimpArgs false

/-- How many bits a number has. -/
def blen (n : Nat) : Nat := if n = 0 then 0 else n.log2 + 1
/-- A bit of a number. -/
def bitAt (n i : Nat) : Int := ((n / 2 ^ i % 2 : Nat) : Int)

theorem pow_pos2 (i : Nat) : 0 < 2 ^ i := Nat.pow_pos (by omega)
theorem lt_blen {n i : Nat} : i < blen n ↔ 2 ^ i ≤ n := by
  unfold blen
  by_cases h : n = 0
  · subst h; have := pow_pos2 i; simp
  · rw [if_neg h, Nat.lt_succ_iff, Nat.le_log2 h]
theorem blen_le {n i : Nat} : blen n ≤ i ↔ n < 2 ^ i := by
  rw [← Nat.not_lt, lt_blen, Nat.not_le]
theorem blen_zero : blen 0 = 0 := rfl
theorem blen_eq_zero {n : Nat} : blen n = 0 ↔ n = 0 := by
  have := blen_le (n := n) (i := 0)
  simp at this
  omega
theorem blen_mono {m n : Nat} (h : m ≤ n) : blen m ≤ blen n := blen_le.2 (Nat.lt_of_le_of_lt h (blen_le.1 (Nat.le_refl _)))
theorem blen_eq {n i : Nat} (h1 : n < 2 ^ i) (h2 : i = 0 ∨ 2 ^ (i - 1) ≤ n) : blen n = i := by
  have a := blen_le.2 h1
  rcases h2 with h2 | h2
  · omega
  · have := lt_blen.2 h2; omega

theorem bitAt_range (n i : Nat) : 0 ≤ bitAt n i ∧ bitAt n i ≤ 1 := by unfold bitAt; omega
theorem bitAt_high {n i : Nat} (h : blen n ≤ i) : bitAt n i = 0 := by
  unfold bitAt
  rw [Nat.div_eq_of_lt (blen_le.1 h)]
  rfl
theorem bitAt_top {n : Nat} (h : 0 < n) : bitAt n (blen n - 1) = 1 := by
  have h0 : 0 < blen n := by have := @blen_eq_zero n; omega
  have h1 : 2 ^ (blen n - 1) ≤ n := lt_blen.1 (by omega)
  have h2 : n < 2 ^ blen n := blen_le.1 (Nat.le_refl _)
  have h3 : 2 ^ blen n = 2 * 2 ^ (blen n - 1) := by
    rw [show blen n = (blen n - 1) + 1 from by omega, Nat.pow_succ]; simp; omega
  unfold bitAt
  have h4 : n / 2 ^ (blen n - 1) = 1 := by
    apply Nat.div_eq_of_lt_le <;> omega
  rw [h4]; rfl

/-- What is carried into place k. -/
def carry (x y k : Nat) : Nat := (x % 2 ^ k + y % 2 ^ k) / 2 ^ k
theorem carry_zero (x y : Nat) : carry x y 0 = 0 := by simp [carry, Nat.mod_one]
theorem carry_le (x y k : Nat) : carry x y k ≤ 1 := by
  unfold carry
  have h := pow_pos2 k
  have a := Nat.mod_lt x h
  have b := Nat.mod_lt y h
  have : (x % 2 ^ k + y % 2 ^ k) / 2 ^ k < 2 := Nat.div_lt_of_lt_mul (by omega)
  omega
theorem mod_succ (x k : Nat) : x % 2 ^ (k + 1) = 2 ^ k * (x / 2 ^ k % 2) + x % 2 ^ k := by
  rw [Nat.pow_succ, Nat.mod_mul]; omega
theorem carry_succ (x y k : Nat) : carry x y (k + 1) = (x / 2 ^ k % 2 + y / 2 ^ k % 2 + carry x y k) / 2 := by
  unfold carry
  rw [mod_succ x k, mod_succ y k]
  have h := pow_pos2 k
  rw [show 2 ^ k * (x / 2 ^ k % 2) + x % 2 ^ k + (2 ^ k * (y / 2 ^ k % 2) + y % 2 ^ k) = (x % 2 ^ k + y % 2 ^ k) + 2 ^ k * (x / 2 ^ k % 2 + y / 2 ^ k % 2) from by rw [Nat.mul_add]; omega]
  rw [Nat.pow_succ, ← Nat.div_div_eq_div_mul, Nat.add_mul_div_left _ _ h]
  congr 1; omega
theorem add_div_pow (x y k : Nat) : (x + y) / 2 ^ k = x / 2 ^ k + y / 2 ^ k + carry x y k := by
  have h := pow_pos2 k
  have a := Nat.div_add_mod x (2 ^ k)
  have b := Nat.div_add_mod y (2 ^ k)
  unfold carry
  rw [show x + y = (x % 2 ^ k + y % 2 ^ k) + 2 ^ k * (x / 2 ^ k + y / 2 ^ k) from by rw [Nat.mul_add]; omega]
  rw [Nat.add_mul_div_left _ _ h]; omega

/-- One place of the schoolbook sum. -/
theorem plus_bit (x y k : Nat) : (bitAt x k + bitAt y k + (carry x y k : Int)) % 2 = bitAt (x + y) k ∧ (bitAt x k + bitAt y k + (carry x y k : Int)) / 2 = (carry x y (k + 1) : Int) := by
  unfold bitAt
  rw [carry_succ, add_div_pow]
  omega
theorem plus_end {x y k : Nat} (h1 : blen x ≤ k) (h2 : blen y ≤ k) (h3 : carry x y k = 0) : x + y < 2 ^ k := by
  have a := blen_le.1 h1
  have b := blen_le.1 h2
  have h := pow_pos2 k
  unfold carry at h3
  rw [Nat.mod_eq_of_lt a, Nat.mod_eq_of_lt b] at h3
  exact (Nat.div_eq_zero_iff_lt h).1 h3
theorem plus_more {x y k : Nat} (h : k < blen x ∨ k < blen y ∨ 0 < carry x y k) : 2 ^ k ≤ x + y := by
  rcases h with h | h | h
  · have := lt_blen.1 h; omega
  · have := lt_blen.1 h; omega
  · unfold carry at h
    have h0 := pow_pos2 k
    have h1 : 2 ^ k ≤ x % 2 ^ k + y % 2 ^ k := by
      rcases Nat.lt_or_ge (x % 2 ^ k + y % 2 ^ k) (2 ^ k) with h2 | h2
      · rw [Nat.div_eq_of_lt h2] at h; omega
      · exact h2
    have := Nat.mod_le x (2 ^ k)
    have := Nat.mod_le y (2 ^ k)
    omega
theorem carry_high {x y k : Nat} (h1 : blen x ≤ k) (h2 : blen y ≤ k) : carry x y (k + 1) = 0 := by
  have a := blen_le.1 h1
  have b := blen_le.1 h2
  have e : 2 ^ (k + 1) = 2 * 2 ^ k := by rw [Nat.pow_succ]; omega
  unfold carry
  rw [Nat.mod_eq_of_lt (by omega), Nat.mod_eq_of_lt (by omega)]
  exact Nat.div_eq_of_lt (by omega)

/-- What is borrowed from place k. -/
def borrow (x y k : Nat) : Nat := if x % 2 ^ k < y % 2 ^ k then 1 else 0
theorem borrow_zero (x y : Nat) : borrow x y 0 = 0 := by simp [borrow, Nat.mod_one]
theorem sub_div_pow (x y k : Nat) (h : y ≤ x) : (x - y) / 2 ^ k + y / 2 ^ k + borrow x y k = x / 2 ^ k := by
  have e := add_div_pow (x - y) y k
  rw [Nat.sub_add_cancel h] at e
  rw [e]
  congr 1
  unfold borrow carry
  have hp := pow_pos2 k
  have a := Nat.mod_lt (x - y) hp
  have b := Nat.mod_lt y hp
  have c : x % 2 ^ k = ((x - y) % 2 ^ k + y % 2 ^ k) % 2 ^ k := by
    rw [← Nat.add_mod, Nat.sub_add_cancel h]
  rcases Nat.lt_or_ge ((x - y) % 2 ^ k + y % 2 ^ k) (2 ^ k) with d | d
  · rw [Nat.div_eq_of_lt d, c, Nat.mod_eq_of_lt d, if_neg (by omega)]
  · have d1 : ((x - y) % 2 ^ k + y % 2 ^ k) / 2 ^ k = 1 := Nat.div_eq_of_lt_le (by omega) (by omega)
    rw [d1, c, Nat.mod_eq_sub_mod d, Nat.mod_eq_of_lt (by omega), if_pos (by omega)]
theorem borrow_succ (x y k : Nat) : borrow x y (k + 1) = if (x / 2 ^ k % 2 : Nat) < y / 2 ^ k % 2 + borrow x y k then 1 else 0 := by
  unfold borrow
  rw [mod_succ x k, mod_succ y k]
  have hp := pow_pos2 k
  have a := Nat.mod_lt x hp
  have b := Nat.mod_lt y hp
  rcases Nat.mod_two_eq_zero_or_one (x / 2 ^ k) with hx | hx <;> rcases Nat.mod_two_eq_zero_or_one (y / 2 ^ k) with hy | hy <;> rw [hx, hy] <;> split <;> split <;> split <;> omega
/-- One place of the schoolbook difference. -/
theorem minus_bit (x y k : Nat) (h : y ≤ x) :
    (bitAt x k - bitAt y k - (borrow x y k : Int) < 0 → bitAt x k - bitAt y k - (borrow x y k : Int) + 2 = bitAt (x - y) k ∧ (borrow x y (k + 1) : Int) = 1) ∧
    (¬ bitAt x k - bitAt y k - (borrow x y k : Int) < 0 → bitAt x k - bitAt y k - (borrow x y k : Int) = bitAt (x - y) k ∧ (borrow x y (k + 1) : Int) = 0) := by
  have e := sub_div_pow x y k h
  have s := borrow_succ x y k
  have bl : borrow x y k ≤ 1 := by unfold borrow; split <;> omega
  unfold bitAt
  constructor
  · intro h1
    rw [if_pos (by omega)] at s
    rw [s]
    omega
  · intro h1
    rw [if_neg (by omega)] at s
    rw [s]
    omega

/-- The order of two numbers. -/
def ordN (x y : Nat) : Int := if x < y then -1 else if y < x then 1 else 0

theorem half_pow (x k : Nat) : ((x / 2 ^ k : Nat) : Int) = 2 * ((x / 2 ^ (k + 1) : Nat) : Int) + bitAt x k := by
  unfold bitAt
  have : x / 2 ^ (k + 1) = x / 2 ^ k / 2 := by rw [Nat.pow_succ, Nat.div_div_eq_div_mul]
  rw [this]; omega
theorem lt_of_div_lt {x y p : Nat} (h : x / p < y / p) : x < y := by
  rcases Nat.lt_or_ge x y with g | g
  · exact g
  · have := Nat.div_le_div_right (c := p) g; omega
/-- The greatest place at which two numbers part tells their order. -/
theorem order_bit {x y k : Nat} (h : x / 2 ^ (k + 1) = y / 2 ^ (k + 1)) :
    (bitAt x k = bitAt y k → x / 2 ^ k = y / 2 ^ k) ∧ (bitAt x k ≠ bitAt y k → bitAt x k - bitAt y k = ordN x y) := by
  have a := half_pow x k
  have b := half_pow y k
  rw [h] at a
  have rx := bitAt_range x k
  have ry := bitAt_range y k
  refine ⟨fun e => by omega, fun e => ?_⟩
  unfold ordN
  rcases Int.lt_trichotomy (bitAt x k) (bitAt y k) with g | g | g
  · have : x < y := lt_of_div_lt (p := 2 ^ k) (by omega)
    rw [if_pos this]; omega
  · exact absurd g e
  · have : y < x := lt_of_div_lt (p := 2 ^ k) (by omega)
    rw [if_neg (by omega), if_pos this]; omega
theorem order_len {x y : Nat} (h : blen x < blen y) : x < y := by
  have a := blen_le.1 (Nat.le_refl (blen x))
  have b := lt_blen.1 h
  omega

/-- Does a number fit an int? -/
def fitsI (z : Int) : Bool := decide (-9223372036854775808 ≤ z ∧ z ≤ 9223372036854775807)

/-- The two words of a sum. -/
def lowS (z : Int) : Int := z % 18446744073709551616
def highS (z : Int) : Int := (z / 18446744073709551616) % 18446744073709551616
theorem lowS_range (z : Int) : 0 ≤ lowS z ∧ lowS z ≤ 18446744073709551615 := by unfold lowS; omega
theorem highS_range (z : Int) : 0 ≤ highS z ∧ highS z ≤ 18446744073709551615 := by unfold highS; omega
theorem low_step (z x : Int) : (lowS z + IntKind.u64.wrap x) % 18446744073709551616 = lowS (z + x) := by
  unfold lowS; rw [IntKind.wrap_u64]; omega
theorem high_step (z x : Int) (h1 : -9223372036854775808 ≤ x) (h2 : x ≤ 9223372036854775807) :
    IntKind.u64.wrap (highS z + IntKind.u64.wrap (IntKind.u64.wrap (x / 9223372036854775808) + (lowS z + IntKind.u64.wrap x) / 18446744073709551616)) = highS (z + x) := by
  unfold lowS highS
  simp only [IntKind.wrap_u64]
  obtain ⟨c, hc⟩ : ∃ c, (z % 18446744073709551616 + x % 18446744073709551616) / 18446744073709551616 = c := ⟨_, rfl⟩
  obtain ⟨d, hd⟩ : ∃ d, z / 18446744073709551616 = d := ⟨_, rfl⟩
  rcases (show (x / 9223372036854775808 = 0 ∧ (z + x) / 18446744073709551616 = d + c) ∨ (x / 9223372036854775808 = -1 ∧ (z + x) / 18446744073709551616 = d + c - 1) from by omega) with ⟨e1, e2⟩ | ⟨e1, e2⟩
  · rw [hc, hd, e1, e2]; clear hc hd e1 e2; omega
  · rw [hc, hd, e1, e2]; clear hc hd e1 e2; omega
theorem sum_fits (z : Int) (h1 : -9223372036854775808000000 ≤ z) (h2 : z ≤ 9223372036854775808000000) :
    (highS z == IntKind.u64.wrap (RowKit.wrap64 (lowS z) / 9223372036854775808)) = fitsI z := by
  have e : RowKit.wrap64 (lowS z) = if z % 18446744073709551616 < 9223372036854775808 then z % 18446744073709551616 else z % 18446744073709551616 - 18446744073709551616 := by
    unfold RowKit.wrap64 lowS; split <;> omega
  rw [e]
  unfold highS fitsI
  simp only [IntKind.wrap_u64]
  rw [Bool.eq_iff_iff, beq_iff_eq, decide_eq_true_iff]
  split <;> omega
theorem sum_value (z : Int) (h : fitsI z = true) : RowKit.wrap64 (lowS z) = z := by
  unfold fitsI at h
  rw [decide_eq_true_iff] at h
  unfold RowKit.wrap64 lowS; omega

end Go.Proofs.YtmjgcenhgpkhiaaDoor
