/- Facts, plainly: rising lists by a key and a day; putting one in; what is told. No program. -/
import Derived.Test.YtmjgcenhgpkhiaaDoorRec
namespace Go.Proofs.YtmjgcenhgpkhiaaDoor
set_option linter.unusedVariables false
set_option linter.unusedSimpArgs false

/-- A key and a day. -/
abbrev KD := Int × Int
def ltK (a b : KD) : Prop := a.1 < b.1 ∨ (a.1 = b.1 ∧ a.2 < b.2)
instance (a b : KD) : Decidable (ltK a b) := by unfold ltK; infer_instance
theorem ltK_trans {a b c : KD} (h : ltK a b) (k : ltK b c) : ltK a c := by unfold ltK at *; omega
theorem ltK_irrefl (a : KD) : ¬ ltK a a := by unfold ltK; omega
theorem ltK_total {a b : KD} (h : ¬ ltK a b) (k : a ≠ b) : ltK b a := by
  obtain ⟨a1, a2⟩ := a
  obtain ⟨b1, b2⟩ := b
  unfold ltK at *
  simp only [ne_eq, Prod.mk.injEq] at k h ⊢
  omega
theorem ltK_ne {a b : KD} (h : ltK a b) : a ≠ b := by rintro rfl; exact ltK_irrefl _ h

section
variable {α : Type} (ky : α → KD)
/-- In order of keys and days, each once. -/
def Rising (l : List α) : Prop := l.Pairwise fun a b => ltK (ky a) (ky b)
/-- One more, in place of another one of its key and day. -/
def putK : List α → α → List α
  | [], x => [x]
  | y :: l, x => if ltK (ky x) (ky y) then x :: y :: l else if ky y = ky x then x :: l else y :: putK l x

variable {ky}
theorem Rising.nil : Rising ky [] := List.Pairwise.nil
theorem putK_mem : ∀ {l : List α} {x z : α}, Rising ky l → (z ∈ putK ky l x ↔ z = x ∨ (z ∈ l ∧ ky z ≠ ky x))
  | [], x, z, _ => by simp [putK]
  | y :: l, x, z, h => by
    obtain ⟨h1, h2⟩ := List.pairwise_cons.1 h
    unfold putK
    split
    · rename_i hlt
      rw [List.mem_cons]
      constructor
      · rintro (rfl | hz)
        · exact Or.inl rfl
        · refine Or.inr ⟨hz, ?_⟩
          rcases List.mem_cons.1 hz with rfl | hz
          · exact (ltK_ne hlt).symm
          · exact (ltK_ne (ltK_trans hlt (h1 z hz))).symm
      · rintro (rfl | ⟨hz, _⟩)
        · exact Or.inl rfl
        · exact Or.inr hz
    · split
      · rename_i he
        rw [List.mem_cons, List.mem_cons]
        constructor
        · rintro (rfl | hz)
          · exact Or.inl rfl
          · exact Or.inr ⟨Or.inr hz, by rw [← he]; exact (ltK_ne (h1 z hz)).symm⟩
        · rintro (rfl | ⟨rfl | hz, hn⟩)
          · exact Or.inl rfl
          · exact absurd he hn
          · exact Or.inr hz
      · rename_i he
        rw [List.mem_cons, putK_mem h2, List.mem_cons]
        constructor
        · rintro (rfl | rfl | ⟨hz, hn⟩)
          · exact Or.inr ⟨Or.inl rfl, he⟩
          · exact Or.inl rfl
          · exact Or.inr ⟨Or.inr hz, hn⟩
        · rintro (rfl | ⟨rfl | hz, hn⟩)
          · exact Or.inr (Or.inl rfl)
          · exact Or.inl rfl
          · exact Or.inr (Or.inr ⟨hz, hn⟩)
theorem putK_rising : ∀ {l : List α} {x : α}, Rising ky l → Rising ky (putK ky l x)
  | [], x, _ => by simp [putK, Rising]
  | y :: l, x, h => by
    obtain ⟨h1, h2⟩ := List.pairwise_cons.1 h
    unfold putK
    split
    · rename_i hlt
      refine List.pairwise_cons.2 ⟨fun z hz => ?_, h⟩
      rcases List.mem_cons.1 hz with rfl | hz
      · exact hlt
      · exact ltK_trans hlt (h1 z hz)
    · rename_i hlt
      split
      · rename_i he
        exact List.pairwise_cons.2 ⟨fun z hz => by rw [← he]; exact h1 z hz, h2⟩
      · rename_i he
        refine List.pairwise_cons.2 ⟨fun z hz => ?_, putK_rising h2⟩
        rcases (putK_mem h2).1 hz with rfl | ⟨hz, _⟩
        · exact ltK_total hlt (fun e => he e.symm)
        · exact h1 z hz
theorem Rising.nodup {l : List α} (h : Rising ky l) : l.Nodup := List.Pairwise.imp (fun {a b} hab e => by subst e; exact ltK_irrefl _ hab) h
theorem Rising.keys {l : List α} (h : Rising ky l) : (l.map ky).Nodup := by
  rw [List.Nodup, List.pairwise_map]
  exact List.Pairwise.imp (fun {a b} hab e => by rw [e] at hab; exact ltK_irrefl _ hab) h
/-- Of a key and day there is one. -/
theorem Rising.one : ∀ {l : List α}, Rising ky l → ∀ {x y : α}, x ∈ l → y ∈ l → ky x = ky y → x = y
  | [], _, _, _, hx, _, _ => by cases hx
  | z :: l, h, x, y, hx, hy, e => by
    obtain ⟨h1, h2⟩ := List.pairwise_cons.1 h
    rcases List.mem_cons.1 hx with ex | hx'
    · rcases List.mem_cons.1 hy with ey | hy'
      · rw [ex, ey]
      · exact absurd e (by rw [ex]; exact ltK_ne (h1 y hy'))
    · rcases List.mem_cons.1 hy with ey | hy'
      · exact absurd e.symm (by rw [ey]; exact ltK_ne (h1 x hx'))
      · exact Rising.one h2 hx' hy' e
/-- Two rising lists of the same members are one. -/
theorem rising_ext : ∀ {l l' : List α}, Rising ky l → Rising ky l' → (∀ z, z ∈ l ↔ z ∈ l') → l = l'
  | [], [], _, _, _ => rfl
  | [], y :: l', _, _, h => by have := (h y).2 (by simp); cases this
  | x :: l, [], _, _, h => by have := (h x).1 (by simp); cases this
  | x :: l, y :: l', h, h', hm => by
    obtain ⟨h1, h2⟩ := List.pairwise_cons.1 h
    obtain ⟨g1, g2⟩ := List.pairwise_cons.1 h'
    have hxy : x = y := by
      rcases List.mem_cons.1 ((hm x).1 (by simp)) with e | hx
      · exact e
      · rcases List.mem_cons.1 ((hm y).2 (by simp)) with e | hy
        · exact e.symm
        · exact absurd (ltK_trans (g1 x hx) (h1 y hy)) (ltK_irrefl _)
    subst hxy
    rw [rising_ext h2 g2 fun z => ?_]
    constructor
    · intro hz
      rcases List.mem_cons.1 ((hm z).1 (List.mem_cons_of_mem _ hz)) with rfl | hz'
      · exact absurd (h1 z hz) (ltK_irrefl _)
      · exact hz'
    · intro hz
      rcases List.mem_cons.1 ((hm z).2 (List.mem_cons_of_mem _ hz)) with rfl | hz'
      · exact absurd (g1 z hz) (ltK_irrefl _)
      · exact hz'
theorem rising_perm {l l' : List α} (h : Rising ky l) (h' : Rising ky l') (p : l.Perm l') : l = l' := rising_ext h h' fun _ => p.mem_iff
/-- What is told of other places does not count for the order. -/
theorem putK_comm {l : List α} {x y : α} (h : Rising ky l) (hn : ky x ≠ ky y) : putK ky (putK ky l x) y = putK ky (putK ky l y) x := by
  refine rising_ext (putK_rising (putK_rising h)) (putK_rising (putK_rising h)) fun z => ?_
  rw [putK_mem (putK_rising h), putK_mem h, putK_mem (putK_rising h), putK_mem h]
  constructor
  · rintro (rfl | ⟨rfl | ⟨h1, h2⟩, h3⟩)
    · exact Or.inr ⟨Or.inl rfl, fun e => hn e.symm⟩
    · exact Or.inl rfl
    · exact Or.inr ⟨Or.inr ⟨h1, h3⟩, h2⟩
  · rintro (rfl | ⟨rfl | ⟨h1, h2⟩, h3⟩)
    · exact Or.inr ⟨Or.inl rfl, hn⟩
    · exact Or.inl rfl
    · exact Or.inr ⟨Or.inr ⟨h1, h3⟩, h2⟩
/-- What is there already. -/
theorem putK_there {l : List α} {x : α} (h : Rising ky l) (hx : x ∈ l) : putK ky l x = l := by
  refine rising_ext (putK_rising h) h fun z => ?_
  rw [putK_mem h]
  constructor
  · rintro (rfl | ⟨h1, _⟩)
    · exact hx
    · exact h1
  · intro hz
    by_cases e : ky z = ky x
    · exact Or.inl (h.one hz hx e)
    · exact Or.inr ⟨hz, e⟩
theorem putK_len (l : List α) (x : α) : (putK ky l x).length ≤ l.length + 1 := by
  induction l with
  | nil => simp [putK]
  | cons y l ih =>
    unfold putK
    split
    · simp
    · split
      · simp
      · simp; omega

/-- The one of a key and day. -/
def getK (ky : α → KD) (l : List α) (p : KD) : Option α := l.find? fun x => decide (ky x = p)
theorem getK_some {l : List α} {p : KD} {x : α} (h : getK ky l p = some x) : x ∈ l ∧ ky x = p := by
  unfold getK at h
  exact ⟨List.mem_of_find?_eq_some h, by simpa using List.find?_some h⟩
theorem getK_none {l : List α} {p : KD} (h : getK ky l p = none) : ∀ x ∈ l, ky x ≠ p := by
  unfold getK at h
  rw [List.find?_eq_none] at h
  intro x hx
  simpa using h x hx
theorem getK_of {l : List α} (h : Rising ky l) {x : α} (hx : x ∈ l) : getK ky l (ky x) = some x := by
  cases hg : getK ky l (ky x) with
  | none => exact absurd rfl (getK_none hg x hx)
  | some y =>
    obtain ⟨h1, h2⟩ := getK_some hg
    rw [h.one h1 hx h2]

/-- Sorted by the program: what the sort leaves of a rising list's members. -/
theorem rising_of_sorted {l l' : List α} (h : Rising ky l) (p : l'.Perm l) (hs : l'.Pairwise fun a b => ¬ ltK (ky b) (ky a)) : l' = l := by
  refine rising_perm ?_ h p
  have hn : (l'.map ky).Nodup := ((p.map ky).nodup_iff).2 h.keys
  rw [List.Nodup, List.pairwise_map] at hn
  refine List.Pairwise.imp₂ (fun a b h1 h2 => ?_) hs hn
  exact ltK_total h1 (Ne.symm h2)
end

/-! ### Facts -/
/-- A fixing. -/
structure Fx where
  k : Int
  d : Int
  n : Int
  m : Int
deriving instance DecidableEq for Fx
instance : Inhabited Fx := ⟨⟨0, 0, 0, 0⟩⟩
/-- A choice. -/
structure Ch where
  k : Int
  d : Int
  p : Int
deriving instance DecidableEq for Ch
instance : Inhabited Ch := ⟨⟨0, 0, 0⟩⟩
def Fx.ky (x : Fx) : KD := (x.k, x.d)
def Ch.ky (x : Ch) : KD := (x.k, x.d)
def encX (x : Fx) : List Value := [.int .i64 x.k, .int .i64 x.d, .int .i64 x.n, .int .i64 x.m]
def encH (x : Ch) : List Value := [.int .i64 x.k, .int .i64 x.d, .int .i64 x.p]
/-- .. with its place ahead. -/
def encEX (x : Fx) : List Value := [.int .i64 x.k, .int .i64 x.d, .int .i64 x.k, .int .i64 x.d, .int .i64 x.n, .int .i64 x.m]
def encEH (x : Ch) : List Value := [.int .i64 x.k, .int .i64 x.d, .int .i64 x.k, .int .i64 x.d, .int .i64 x.p]
/-- A place as a key of a map. -/
def plV (p : KD) : Value := .agg #[.int .i64 p.1, .int .i64 p.2]
theorem plV_inj {p q : KD} (h : plV p = plV q) : p = q := by
  obtain ⟨a, b⟩ := p
  obtain ⟨c, d⟩ := q
  simpa [plV] using h
def OkPl (v : Value) : Prop := ∃ p : KD, v = plV p
/-- Facts as a map's entries. -/
def entX (x : Fx) : Value × Value := (plV x.ky, .agg (encX x).toArray)
def entH (x : Ch) : Value × Value := (plV x.ky, .agg (encH x).toArray)

end Go.Proofs.YtmjgcenhgpkhiaaDoor
