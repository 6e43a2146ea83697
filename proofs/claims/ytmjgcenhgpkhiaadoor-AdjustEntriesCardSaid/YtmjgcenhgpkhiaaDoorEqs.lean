/- Equality of arrays of integers, and of structs of integers, as equality of their lists. Over any program. -/
import Derived.Test.YtmjgcenhgpkhiaaDoorInts
import Derived.ChangeKeysEq
import Derived.Laws.StructEq
namespace Go.Proofs.YtmjgcenhgpkhiaaDoor
open Go.RowKit
set_option linter.unusedVariables false
set_option linter.unusedSimpArgs false

section
variable {P : Program}

/-- Integers as cells. -/
def intC (xs : List Int) : Array Value := (xs.map (Value.int .i64)).toArray
theorem intC_get (xs : List Int) (j : Nat) (h : j < xs.length) : (intC xs)[j]? = some (.int .i64 (xs.getD j 0)) := by
  unfold intC
  simp [List.getElem?_eq_getElem h, List.getD_eq_getElem?_getD]

theorem eqItems_ints (w : World) (d : Nat) {e : TypeId} (he : P.underlying e = some (.int .i64)) (hp : P.plainKey e = true) (xs ys : List Int) (hl : xs.length = ys.length) :
    ∀ is : List Nat, (∀ j ∈ is, j < xs.length) → (Op.eqItems (d + 1) e 1 (intC xs) (intC ys) is).run P w = .ok (is.all fun j => xs.getD j 0 == ys.getD j 0) w
  | [], _ => by simp [Op.eqItems]
  | i :: is, h => by
    have hi := h i (by simp)
    have ih := eqItems_ints w d he hp xs ys hl is fun j hj => h j (by simp [hj])
    simp only [Op.eqItems, Sem.run_bind, Nat.mul_one]
    rw [run_part_plain w hp (intC_get xs i hi), Result.andThen_ok, run_part_plain w hp (intC_get ys i (by omega)), Result.andThen_ok]
    rw [run_equalIn_int w d e .i64 .i64 _ _ he, Result.andThen_ok, List.all_cons]
    cases (xs.getD i 0 == ys.getD i 0)
    · simp
    · simpa using ih

theorem all_range_eq (xs ys : List Int) (n : Nat) (h1 : xs.length = n) (h2 : ys.length = n) : ((List.range n).all fun j => xs.getD j 0 == ys.getD j 0) = decide (xs = ys) := by
  rw [Bool.eq_iff_iff, decide_eq_true_iff, List.all_eq_true]
  constructor
  · intro h
    refine List.ext_getElem (by omega) fun i a b => ?_
    have := h i (by simp; omega)
    simp [List.getD_eq_getElem?_getD, List.getElem?_eq_getElem a, List.getElem?_eq_getElem b] at this
    exact this
  · rintro rfl
    simp

theorem eq_array (w : World) {t e : TypeId} {n : Nat} {i : TypeInfo} (hu : P.underlying t = some (.array n e)) (hi : P.info? e = some i) (he : P.underlying e = some (.int .i64)) (hp : P.plainKey e = true) (hc : P.cellsOf e = 1)
    (xs ys : List Int) (h1 : xs.length = n) (h2 : ys.length = n) : (Op.equalIn 10000 t (.agg (intC xs)) (.agg (intC ys))).run P w = .ok (decide (xs = ys)) w := by
  rw [run_equalIn_array w 9999 (intC xs) (intC ys) hu hi, hc, eqItems_ints w 9998 he hp xs ys (by omega) _ (by intro j hj; simp at hj; omega), all_range_eq xs ys n h1 h2]

theorem eqFields_ints (w : World) (d : Nat) (xs ys : List Int) (hl : xs.length = ys.length) :
    ∀ (fs : List Field) (k : Nat), (∀ (j : Nat) (f : Field), fs[j]? = some f → f.name ≠ "_" ∧ f.offset = k + j ∧ k + j < xs.length ∧ P.underlying f.type = some (.int .i64) ∧ P.plainKey f.type = true) →
    (Op.eqFields (d + 1) (intC xs) (intC ys) fs).run P w = .ok ((List.range fs.length).all fun j => xs.getD (k + j) 0 == ys.getD (k + j) 0) w
  | [], k, _ => by simp [Op.eqFields]
  | f :: fs, k, h => by
    obtain ⟨hn, ho, hlt, hu, hp⟩ := h 0 f rfl
    have ih := eqFields_ints w d xs ys hl fs (k + 1) fun j g hg => by
      obtain ⟨a, b, c, e⟩ := h (j + 1) g (by simpa using hg)
      exact ⟨a, by omega, by omega, e⟩
    rw [Nat.add_zero] at ho hlt
    simp only [Op.eqFields, hn, ne_eq, not_false_eq_true, if_true, Sem.run_bind, ho]
    rw [run_part_plain w hp (intC_get xs k hlt), Result.andThen_ok, run_part_plain w hp (intC_get ys k (by omega)), Result.andThen_ok]
    rw [run_equalIn_int w d f.type .i64 .i64 _ _ hu, Result.andThen_ok, List.length_cons, List.range_succ_eq_map, List.all_cons, List.all_map]
    cases hb : (xs.getD k 0 == ys.getD k 0)
    · simp [hb]
    · simp only [Nat.add_zero, hb, Bool.true_and]
      have e : ((fun j => xs.getD (k + j) 0 == ys.getD (k + j) 0) ∘ Nat.succ) = fun j => xs.getD (k + 1 + j) 0 == ys.getD (k + 1 + j) 0 := by
        funext j
        show (xs.getD (k + (j + 1)) 0 == ys.getD (k + (j + 1)) 0) = _
        rw [show k + (j + 1) = k + 1 + j from by omega]
      rw [e]
      simpa using ih

/-- The fields of a struct of n integers. -/
def intFields (P : Program) (n : Nat) : Nat → List Field → Bool
  | k, [] => k == n
  | k, f :: fs => f.name != "_" && f.offset == k && (match P.underlying f.type with | some (.int .i64) => true | _ => false) && P.plainKey f.type && intFields P n (k + 1) fs
theorem intFields_ok {n : Nat} : ∀ (fs : List Field) (k : Nat), intFields P n k fs = true → k + fs.length = n ∧ ∀ (j : Nat) (f : Field), fs[j]? = some f → f.name ≠ "_" ∧ f.offset = k + j ∧ P.underlying f.type = some (.int .i64) ∧ P.plainKey f.type = true
  | [], k, h => by simp [intFields] at h; exact ⟨by simpa using h, fun j f hf => by simp at hf⟩
  | f :: fs, k, h => by
    simp only [intFields, Bool.and_eq_true, bne_iff_ne, beq_iff_eq] at h
    obtain ⟨⟨⟨⟨h1, h2⟩, h3⟩, h4⟩, h5⟩ := h
    obtain ⟨g1, g2⟩ := intFields_ok fs (k + 1) h5
    refine ⟨by simp; omega, fun j g hg => ?_⟩
    cases j with
    | zero =>
      simp at hg
      subst hg
      refine ⟨h1, by omega, ?_, h4⟩
      split at h3
      · assumption
      · cases h3
    | succ j =>
      obtain ⟨a, b, c⟩ := g2 j g (by simpa using hg)
      exact ⟨a, by omega, c⟩

theorem eq_struct (w : World) {t : TypeId} {fs : Array Field} {n : Nat} (hu : P.underlying t = some (.struct fs)) (hh : P.stoodInHeld t = false) (hf : intFields P n 0 fs.toList = true)
    (xs ys : List Int) (h1 : xs.length = n) (h2 : ys.length = n) : (Op.equalIn 10000 t (.agg (intC xs)) (.agg (intC ys))).run P w = .ok (decide (xs = ys)) w := by
  obtain ⟨g1, g2⟩ := intFields_ok _ _ hf
  have hfs : P.fieldsOf t = fs := by unfold Program.fieldsOf; rw [hu]
  rw [run_equalIn_agg w 9999 _ _ _ (by rw [hfs]; exact hu) hh, hfs]
  rw [eqFields_ints w 9998 xs ys (by omega) fs.toList 0 fun j f hj => by
    obtain ⟨a, b, c, e⟩ := g2 j f hj
    have := (List.getElem?_eq_some_iff.1 hj).1
    exact ⟨a, b, by omega, c, e⟩]
  have := all_range_eq xs ys n h1 h2
  simp only [Nat.zero_add] at g1 ⊢
  rw [g1, this]
end
end Go.Proofs.YtmjgcenhgpkhiaaDoor
