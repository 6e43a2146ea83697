/- Readings of arguments, opened in one way for any type: a value of structs and arrays as its row of one-cell leaves; a slice as its elements' rows. Over any program. -/
import Derived.ProofKit
import Derived.WalkKit
import Derived.OpenShut
import Derived.Below
import Derived.WalkSmall
import Derived.Lib.Hide
namespace Go.Proofs.YtmjgcenhgpkhiaaDoor
open Go.ChangeShapes Go.WideShapes Go.ChangeAt Go.RowKit
set_option linter.unusedVariables false
set_option linter.unusedSimpArgs false

section
variable {H : Type} {enc : TypeId × Value → H} {P : Program} {w : World} {base : Nat} {spare : Nat → Bool} {held : Bool}

/-- A row of cells, each under a word of its leaf's type. -/
def CellsAre (R : TypeId → Value → Prop) : List TypeId → List Value → Prop
  | [], [] => True
  | t :: ts, c :: cs => R t c ∧ CellsAre R ts cs
  | _, _ => False

theorem CellsAre.nil {R : TypeId → Value → Prop} {cs : List Value} (h : CellsAre R [] cs) : cs = [] := by
  cases cs with
  | nil => rfl
  | cons c cs => exact h.elim

theorem CellsAre.cons {R : TypeId → Value → Prop} {t : TypeId} {ts : List TypeId} {cs : List Value} (h : CellsAre R (t :: ts) cs) : ∃ c cs', cs = c :: cs' ∧ R t c ∧ CellsAre R ts cs' := by
  cases cs with
  | nil => exact h.elim
  | cons c cs => exact ⟨c, cs, rfl, h.1, h.2⟩

theorem CellsAre.length {R : TypeId → Value → Prop} : ∀ {ts : List TypeId} {cs : List Value}, CellsAre R ts cs → cs.length = ts.length
  | [], [], _ => rfl
  | [], _ :: _, h => h.elim
  | _ :: _, [], h => h.elim
  | _ :: ts, _ :: cs, h => by simp [CellsAre.length h.2]

theorem CellsAre.append {R : TypeId → Value → Prop} : ∀ {ts us : List TypeId} {cs ds : List Value}, CellsAre R ts cs → CellsAre R us ds → CellsAre R (ts ++ us) (cs ++ ds)
  | [], us, [], ds, _, h => h
  | [], _, _ :: _, _, h, _ => h.elim
  | _ :: _, _, [], _, h, _ => h.elim
  | _ :: ts, us, _ :: cs, ds, h, k => ⟨h.1, CellsAre.append h.2 k⟩

/-- What a leaf is known to be: its one cell has a reading. -/
def LeafOk (enc : TypeId × Value → H) (P : Program) (w : World) (base : Nat) (spare : Nat → Bool) (held : Bool) (t : TypeId) (c : Value) : Prop :=
  ∃ m y, DataW.trod enc P w base spare held m t [c] = some y

/-- A type's leaves, in the order of its cells; none: it is not laid out so. -/
def flatFields (g : TypeId → Option (List TypeId)) : Nat → List Field → Option (List TypeId)
  | _, [] => some []
  | off, f :: fs => match g f.type, flatFields g (off + ((g f.type).getD []).length) fs with
    | some l, some r => if f.offset = off then some (l ++ r) else none
    | _, _ => none

def flat (P : Program) : Nat → TypeId → Option (List TypeId)
  | 0, _ => none
  | d + 1, t => match P.underlying t with
    | some (.struct fs) => match flatFields (flat P d) 0 fs.toList with
      | some l => if P.cellsOf t = l.length then some l else none
      | none => none
    | some (.array n e) => match flat P d e with
      | some l => if P.cellsOf t = n * l.length then some (List.replicate n l).flatten else none
      | none => none
    | some (.int _) | some .bool | some .string | some (.slice _) | some (.pointer _) | some (.map _ _) => if P.cellsOf t = 1 then some [t] else none
    | _ => none

theorem flat_cellsOf : ∀ (d : Nat) (t : TypeId) (l : List TypeId), flat P d t = some l → P.cellsOf t = l.length
  | 0, _, _, h => by simp [flat] at h
  | d + 1, t, l, h => by
    unfold flat at h
    split at h
    · split at h
      · split at h
        · simp only [Option.some.injEq] at h; subst h; assumption
        · cases h
      · cases h
    · split at h
      · split at h
        · simp only [Option.some.injEq] at h; subst h; simpa using ‹_›
        · cases h
      · cases h
    all_goals first
      | (split at h
         · simp only [Option.some.injEq] at h; subst h; assumption
         · cases h)
      | cases h

theorem flatFields_ok {d : Nat} (ih : ∀ (fuel : Nat) (t : TypeId) (l : List TypeId) (cs : List Value) (x : DataW H × List MemPlace), flat P d t = some l → DataW.trod enc P w base spare held fuel t cs = some x → CellsAre (LeafOk enc P w base spare held) l cs)
    (n : Nat) (cs : List Value) : ∀ (fs : List Field) (off : Nat) (l : List TypeId), flatFields (flat P d) off fs = some l →
    (∀ (i : Nat) (f : Field), fs[i]? = some f → ∃ y, DataW.trod enc P w base spare held n f.type ((cs.drop f.offset).take (P.cellsOf f.type)) = some y) → CellsAre (LeafOk enc P w base spare held) l ((cs.drop off).take l.length)
  | [], off, l, h, _ => by
    simp only [flatFields, Option.some.injEq] at h
    subst h
    simp [CellsAre]
  | f :: fs, off, l, h, hf => by
    unfold flatFields at h
    split at h
    · rename_i l0 r0 e0 e1
      split at h
      · rename_i ho
        simp only [Option.some.injEq] at h
        subst h
        obtain ⟨y, hy⟩ := hf 0 f rfl
        have h0 := ih n f.type l0 _ y e0 hy
        rw [flat_cellsOf d _ _ e0, ho] at h0
        rw [e0] at e1
        have h1 := flatFields_ok ih n cs fs (off + l0.length) r0 e1 (fun i g hg => hf (i + 1) g (by simpa using hg))
        have hs : (cs.drop off).take (l0 ++ r0).length = (cs.drop off).take l0.length ++ (cs.drop (off + l0.length)).take r0.length := by
          rw [List.length_append, List.take_add, List.drop_drop]
        rw [hs]
        exact h0.append h1
      · cases h
    · cases h

theorem array_ok {d : Nat} {e : TypeId} {l : List TypeId} (ih : ∀ (fuel : Nat) (t : TypeId) (l : List TypeId) (cs : List Value) (x : DataW H × List MemPlace), flat P d t = some l → DataW.trod enc P w base spare held fuel t cs = some x → CellsAre (LeafOk enc P w base spare held) l cs)
    (he : flat P d e = some l) (m : Nat) (cs : List Value) : ∀ (n : Nat) (i : Nat), (∀ j, j < n → ∃ y, DataW.trod enc P w base spare held m e ((cs.drop ((i + j) * l.length)).take l.length) = some y) →
    CellsAre (LeafOk enc P w base spare held) (List.replicate n l).flatten ((cs.drop (i * l.length)).take (n * l.length))
  | 0, i, _ => by simp [CellsAre]
  | n + 1, i, h => by
    obtain ⟨y, hy⟩ := h 0 (by omega)
    have h0 := ih m e l _ y he hy
    have h1 := array_ok ih he m cs n (i + 1) (fun j hj => by have := h (j + 1) (by omega); rwa [show i + (j + 1) = i + 1 + j from by omega] at this)
    rw [List.replicate_succ, List.flatten_cons]
    have hs : (cs.drop (i * l.length)).take ((n + 1) * l.length) = (cs.drop (i * l.length)).take l.length ++ (cs.drop ((i + 1) * l.length)).take (n * l.length) := by
      rw [show (n + 1) * l.length = l.length + n * l.length from by rw [Nat.add_mul]; omega, List.take_add, List.drop_drop, show i * l.length + l.length = (i + 1) * l.length from by rw [Nat.add_mul]; omega]
    rw [hs]
    exact h0.append h1

/-- THE LEAVES OF A READING. -/
theorem flat_ok : ∀ (d : Nat) (fuel : Nat) (t : TypeId) (l : List TypeId) (cs : List Value) (x : DataW H × List MemPlace), flat P d t = some l → DataW.trod enc P w base spare held fuel t cs = some x → CellsAre (LeafOk enc P w base spare held) l cs
  | 0, _, _, _, _, _, h, _ => by simp [flat] at h
  | d + 1, fuel, t, l, cs, x, h, hx => by
    have hc := flat_cellsOf _ _ _ h
    have hxx := hx
    unfold flat at h
    split at h
    · rename_i fs hu
      split at h
      · rename_i l' hl
        split at h
        · simp only [Option.some.injEq] at h
          subst h
          obtain ⟨xs, n, _, _, hlen, hxs, hf⟩ := DataW.trod_struct hu hx
          have := flatFields_ok (flat_ok d) n cs fs.toList 0 l' hl (fun i f hif => by
            have h1 := hf i f (by simpa using hif)
            have h2 : i < xs.length := by
              rw [hxs]
              have := (List.getElem?_eq_some_iff.1 hif).1
              simpa using this
            rw [List.getElem?_eq_getElem h2] at h1
            exact ⟨_, h1⟩)
          rw [List.drop_zero, List.take_of_length_le (by omega)] at this
          exact this
        · cases h
      · cases h
    · rename_i n e hu
      split at h
      · rename_i l' hl
        split at h
        · simp only [Option.some.injEq] at h
          subst h
          obtain ⟨xs, m, _, _, hlen, hxs, hf⟩ := DataW.trod_array hu hx
          have hce := flat_cellsOf _ _ _ hl
          have := array_ok (flat_ok d) hl m cs n 0 (fun j hj => by
            have h1 := hf j hj
            rw [hce] at h1
            rw [List.getElem?_eq_getElem (by omega)] at h1
            exact ⟨_, by rw [Nat.zero_add]; exact h1⟩)
          rw [Nat.zero_mul, List.drop_zero, List.take_of_length_le (by rw [hlen]; omega)] at this
          exact this
        · cases h
      · cases h
    all_goals first
      | cases h; done
      | (rename_i hu
         split at h
         · simp only [Option.some.injEq] at h
           subst h
           have : ∃ c, cs = [c] := by
             cases fuel with
             | zero => simp [DataW.trod] at hx
             | succ k =>
               unfold DataW.trod at hx
               rw [hu] at hx
               match cs, hx with
               | [c], _ => exact ⟨c, rfl⟩
               | [], hx => simp at hx
               | _ :: _ :: _, hx => simp at hx
           obtain ⟨c, rfl⟩ := this
           exact ⟨⟨_, _, hxx⟩, trivial⟩
         · cases h)

/-! ### The leaves, opened -/
theorem LeafOk.int {t : TypeId} {k : IntKind} {c : Value} (hu : P.underlying t = some (.int k)) (h : LeafOk enc P w base spare held t c) : ∃ n, c = .int k n ∧ (Lit.int k n).wf = true := by
  obtain ⟨m, y, hy⟩ := h
  obtain ⟨n, e, _, hw⟩ := DataW.trod_int hu hy
  simp only [List.cons.injEq, and_true] at e
  exact ⟨n, e, hw⟩

theorem LeafOk.bool {t : TypeId} {c : Value} (hu : P.underlying t = some .bool) (h : LeafOk enc P w base spare held t c) : ∃ b, c = .bool b := by
  obtain ⟨m, y, hy⟩ := h
  obtain ⟨b, e, _⟩ := DataW.trod_bool hu hy
  simp only [List.cons.injEq, and_true] at e
  exact ⟨b, e⟩

theorem LeafOk.string {t : TypeId} {c : Value} (hu : P.underlying t = some .string) (h : LeafOk enc P w base spare held t c) : ∃ s : ByteArray, c = .string s ∧ s.size ≤ maxLen := by
  obtain ⟨m, y, hy⟩ := h
  obtain ⟨s, e, _, hs⟩ := DataW.trod_string hu hy
  simp only [List.cons.injEq, and_true] at e
  exact ⟨s, e, hs⟩

theorem cells?_get {a : Addr} {n : Nat} {cs : List Value} (h : w.cells? base a n = some cs) : cs.length = n ∧ ∀ j, j < n → w.cell? (a.add j) = cs[j]? := by
  unfold World.cells? at h
  split at h
  · have h1 : cs.length = n := by simpa using mapM_some_length h
    exact ⟨h1, fun j hj => mapM_some_get h j j (by simp [hj])⟩
  · cases h

/-- A slice's elements: their rows of leaves, at their places. -/
def ElemsAre (enc : TypeId × Value → H) (P : Program) (w : World) (base : Nat) (spare : Nat → Bool) (held : Bool) (ls : List TypeId) (a : Addr) (len : Nat) : Prop :=
  ∀ i, i < len → ∃ cs, CellsAre (LeafOk enc P w base spare held) ls cs ∧ ∀ j, j < ls.length → w.cell? (a.add (i * ls.length + j)) = cs[j]?

theorem add_add (a : Addr) (i j : Nat) : (a.add i).add j = a.add (i + j) := by
  unfold Addr.add
  by_cases h1 : i = 0
  · simp [h1]
  · by_cases h2 : j = 0
    · simp [h1, h2]
    · simp [h1, h2]; omega

theorem LeafOk.slice {t e : TypeId} {c : Value} {d : Nat} {ls : List TypeId} (hu : P.underlying t = some (.slice e)) (hl : flat P d e = some ls) (h : LeafOk enc P w base spare held t c) :
    c = .slice none 0 0 ∨ ∃ (a : Addr) (len cap : Nat), c = .slice (some a) len cap ∧ len ≤ cap ∧ cap ≤ maxLen ∧ ElemsAre enc P w base spare held ls a len := by
  obtain ⟨m, y, hy⟩ := h
  rcases DataW.trod_slice hu hy with ⟨e1, _⟩ | ⟨a, len, cap, elems, rest, n, _, e1, _, _, h1, h2, h3, h4, _⟩
  · simp only [List.cons.injEq, and_true] at e1
    exact Or.inl e1
  · simp only [List.cons.injEq, and_true] at e1
    refine Or.inr ⟨a, len, cap, e1, h1, h2, fun i hi => ?_⟩
    have h5 := h4 i hi
    rw [flat_cellsOf _ _ _ hl, List.getElem?_eq_getElem (by omega)] at h5
    obtain ⟨cs, h6, h7⟩ := Option.bind_eq_some_iff.1 h5
    obtain ⟨g1, g2⟩ := cells?_get h6
    refine ⟨cs, flat_ok d n e ls cs _ hl h7, fun j hj => ?_⟩
    rw [← add_add]
    exact g2 j hj

/-- A whole argument's leaves. -/
theorem arg_leaves {t : TypeId} {v : Value} {x : DataW H} {p : List MemPlace} {d : Nat} {ls : List TypeId} (hl : flat P d t = some ls) (h : DataW.Trod enc P w base spare held t v x p) : CellsAre (LeafOk enc P w base spare held) ls v.cells.toList := by
  obtain ⟨m, hm⟩ := h
  exact flat_ok d m t ls _ _ hl hm

theorem okWide_agg {t : TypeId} {v : Value} {r : Reach} {b : Nat} (ha : (match P.underlying t with | some (.struct _) | some (.array _ _) => true | _ => false) = true) (h : Value.okWide P w r b t v) : ∃ cs, v = .agg cs := by
  unfold Value.okWide at h
  split at h
  · obtain ⟨cs, h1, _⟩ := h; exact ⟨cs, h1⟩
  · obtain ⟨cs, h1, _⟩ := h; exact ⟨cs, h1⟩
  · split at ha <;> simp_all

theorem wf_bounds {n : Int} (h : (Lit.int .i64 n).wf = true) : -9223372036854775808 ≤ n ∧ n ≤ 9223372036854775807 := by
  simpa [Lit.wf, IntKind.min, IntKind.max, IntKind.signed, IntKind.bits] using h

theorem add_plain (b o n : Nat) : (⟨b, o, none⟩ : Addr).add n = ⟨b, o + n, none⟩ := by
  unfold Addr.add
  split
  · rename_i h; subst h; rfl
  · rfl

/-- Where a slice has elements it begins at a plain place. -/
theorem elems_plain {ls : List TypeId} {a : Addr} {len : Nat} (h : ElemsAre enc P w base spare held ls a len) (h1 : 0 < ls.length) (h2 : 0 < len) : ∃ b o, a = ⟨b, o, none⟩ := by
  obtain ⟨cs, c1, c2⟩ := h 0 h2
  have c3 := c2 0 h1
  have c4 := c1.length
  simp only [Nat.zero_mul, Nat.add_zero] at c3
  have c5 : (a.add 0) = a := by unfold Addr.add; simp
  rw [c5, List.getElem?_eq_getElem (by omega)] at c3
  obtain ⟨b, o, s⟩ := a
  cases s with
  | none => exact ⟨b, o, rfl⟩
  | some s =>
    unfold World.cell? at c3
    split at c3
    · simp at c3
    · cases c3

end
end Go.Proofs.YtmjgcenhgpkhiaaDoor
