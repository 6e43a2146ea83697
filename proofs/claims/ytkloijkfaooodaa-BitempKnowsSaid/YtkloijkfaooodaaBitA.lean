/- Versions, plainly: lists of them, those of one place, the latest one; putting one in. No program. -/
import Derived.Test.YtkloijkfaooodaaFacC
namespace Go.Proofs.Ytkloijkfaooodaa
set_option linter.unusedVariables false
set_option linter.unusedSimpArgs false

/-- A version. -/
structure Vs where
  s : Int
  c : Bool
  k : Int
  d : Int
  n : Int
  m : Int
  p : Int
deriving instance DecidableEq for Vs
instance : Inhabited Vs := ⟨⟨0, false, 0, 0, 0, 0, 0⟩⟩
def encS (v : Vs) : List Value := [.int .i64 v.s, .bool v.c, .int .i64 v.k, .int .i64 v.d, .int .i64 v.n, .int .i64 v.m, .int .i64 v.p]
/-- .. as the document has it. -/
def kindV (c : Bool) : Int := if c then 1 else 0
def encR (v : Vs) : List Value := [.int .i64 v.s, .int .i64 (kindV v.c), .int .i64 v.k, .int .i64 v.d, .int .i64 v.n, .int .i64 v.m, .int .i64 v.p]
theorem kindV_inj {a b : Bool} (h : kindV a = kindV b) : a = b := by cases a <;> cases b <;> simp [kindV] at h ⊢
/-- A place. -/
abbrev PK := Bool × Int × Int
def Vs.pl (v : Vs) : PK := (v.c, v.k, v.d)
def pkV (p : PK) : Value := .agg #[.bool p.1, .int .i64 p.2.1, .int .i64 p.2.2]
theorem pkV_inj {p q : PK} (h : pkV p = pkV q) : p = q := by
  obtain ⟨a, b, c⟩ := p
  obtain ⟨a', b', c'⟩ := q
  simpa [pkV] using h
def OkPk (v : Value) : Prop := ∃ p : PK, v = pkV p

/-- Those of a place. -/
def ofP (V : List Vs) (q : PK) : List Vs := V.filter fun v => decide (v.pl = q)
/-- Where they are. -/
def idxG (q : PK) : Nat → List Vs → List Nat
  | _, [] => []
  | i, v :: V => if v.pl = q then i :: idxG q (i + 1) V else idxG q (i + 1) V
def idxP (V : List Vs) (q : PK) : List Nat := idxG q 0 V
theorem idxG_cons (q : PK) (v : Vs) (V : List Vs) (i : Nat) : idxG q i (v :: V) = if v.pl = q then i :: idxG q (i + 1) V else idxG q (i + 1) V := rfl
theorem idxG_append (q : PK) : ∀ (V W : List Vs) (i : Nat), idxG q i (V ++ W) = idxG q i V ++ idxG q (i + V.length) W
  | [], W, i => by simp [idxG]
  | v :: V, W, i => by
    rw [List.cons_append, idxG_cons, idxG_cons, idxG_append q V W (i + 1), List.length_cons, show i + 1 + V.length = i + (V.length + 1) by omega]
    by_cases h : v.pl = q
    · rw [if_pos h, if_pos h, List.cons_append]
    · rw [if_neg h, if_neg h]
theorem idxP_snoc (V : List Vs) (v : Vs) (q : PK) : idxP (V ++ [v]) q = if v.pl = q then idxP V q ++ [V.length] else idxP V q := by
  unfold idxP
  rw [idxG_append, Nat.zero_add, idxG_cons]
  by_cases h : v.pl = q
  · rw [if_pos h, if_pos h]
    rfl
  · rw [if_neg h, if_neg h]
    simp [idxG]
theorem ofP_snoc (V : List Vs) (v : Vs) (q : PK) : ofP (V ++ [v]) q = if v.pl = q then ofP V q ++ [v] else ofP V q := by
  unfold ofP
  rw [List.filter_append]
  split
  · rename_i h; simp [h]
  · rename_i h; simp [h]
theorem idxG_lt (q : PK) : ∀ (V : List Vs) (i j : Nat), j ∈ idxG q i V → i ≤ j ∧ j < i + V.length
  | [], i, j, h => by simp [idxG] at h
  | v :: V, i, j, h => by
    unfold idxG at h
    split at h
    · rcases List.mem_cons.1 h with rfl | h
      · simp
      · have := idxG_lt q V (i + 1) j h
        simp only [List.length_cons]
        omega
    · have := idxG_lt q V (i + 1) j h
      simp only [List.length_cons]
      omega
theorem idxP_lt {V : List Vs} {q : PK} {j : Nat} (h : j ∈ idxP V q) : j < V.length := by have := idxG_lt q V 0 j h; omega
theorem idxG_of (q : PK) : ∀ (V : List Vs) (i : Nat) (U : List Vs), U.length = i → (idxG q i V).map (fun j => (U ++ V).getD j default) = ofP V q
  | [], i, U, h => by simp [idxG, ofP]
  | v :: V, i, U, h => by
    have ih := idxG_of q V (i + 1) (U ++ [v]) (by simp [h])
    rw [List.append_assoc, List.singleton_append] at ih
    rw [idxG_cons]
    unfold ofP
    rw [List.filter_cons]
    by_cases e : v.pl = q
    · rw [if_pos e, if_pos (by simpa using e), List.map_cons, ih]
      congr 1
      rw [List.getD_eq_getElem?_getD, List.getElem?_append_right (by omega), h]
      simp
    · rw [if_neg e, if_neg (by simpa using e), ih]
      rfl
theorem idxP_of (V : List Vs) (q : PK) : (idxP V q).map (fun j => V.getD j default) = ofP V q := by
  have := idxG_of q V 0 [] rfl
  rw [List.nil_append] at this
  exact this
theorem idxP_len (V : List Vs) (q : PK) : (idxP V q).length = (ofP V q).length := by rw [← idxP_of, List.length_map]
theorem ofP_len (V : List Vs) (q : PK) : (ofP V q).length ≤ V.length := List.length_filter_le _ _

/-- The latest one of a place up to a Seq. -/
def latP (V : List Vs) (q : PK) (s : Int) : Option Vs := (ofP V q).reverse.find? fun v => decide (v.s ≤ s)
theorem latP_some {V : List Vs} {q : PK} {s : Int} {v : Vs} (h : latP V q s = some v) : v ∈ V ∧ v.pl = q ∧ v.s ≤ s := by
  unfold latP at h
  have h1 := List.mem_of_find?_eq_some h
  have h2 := List.find?_some h
  rw [List.mem_reverse] at h1
  unfold ofP at h1
  rw [List.mem_filter] at h1
  exact ⟨h1.1, by simpa using h1.2, by simpa using h2⟩
/-- Where the latest one is. -/
def latI (V : List Vs) (q : PK) (s : Int) : Int → Prop := fun i =>
  (i = -1 ∧ ∀ v ∈ V, ¬ (v.pl = q ∧ v.s ≤ s)) ∨ ∃ n : Nat, ∃ v, i = n ∧ V[n]? = some v ∧ v.pl = q ∧ v.s ≤ s ∧ ∀ u ∈ V.drop (n + 1), ¬ (u.pl = q ∧ u.s ≤ s)
theorem latI_none {V : List Vs} {q : PK} {s : Int} (h : ∀ v ∈ V, ¬ (v.pl = q ∧ v.s ≤ s)) : latP V q s = none := by
  unfold latP
  rw [List.find?_eq_none]
  intro v hv
  rw [List.mem_reverse] at hv
  unfold ofP at hv
  rw [List.mem_filter] at hv
  simp only [decide_eq_true_eq]
  intro hs
  exact h v hv.1 ⟨by simpa using hv.2, hs⟩
theorem latI_some {V : List Vs} {q : PK} {s : Int} {n : Nat} {v : Vs} (h1 : V[n]? = some v) (h2 : v.pl = q) (h3 : v.s ≤ s) (h4 : ∀ u ∈ V.drop (n + 1), ¬ (u.pl = q ∧ u.s ≤ s)) : latP V q s = some v := by
  have hV : V = V.take n ++ v :: V.drop (n + 1) := by
    obtain ⟨hn, e⟩ := List.getElem?_eq_some_iff.1 h1
    have := (List.take_append_drop n V).symm
    rwa [List.drop_eq_getElem_cons hn, e] at this
  have ho : ofP V q = ofP (V.take n) q ++ v :: ofP (V.drop (n + 1)) q := by
    conv => lhs; rw [hV]
    unfold ofP
    rw [List.filter_append, List.filter_cons, if_pos (by simpa using h2)]
  unfold latP
  rw [ho, List.reverse_append, List.reverse_cons, List.append_assoc, List.find?_append]
  have hn : (ofP (V.drop (n + 1)) q).reverse.find? (fun v => decide (v.s ≤ s)) = none := by
    rw [List.find?_eq_none]
    intro u hu
    rw [List.mem_reverse] at hu
    unfold ofP at hu
    rw [List.mem_filter] at hu
    simp only [decide_eq_true_eq]
    intro hs
    exact h4 u hu.1 ⟨by simpa using hu.2, hs⟩
  rw [hn]
  simp [h3]

/-- The last Seq. -/
def seqV (V : List Vs) : Int := match V.getLast? with | none => 0 | some v => v.s
theorem seqV_snoc (V : List Vs) (v : Vs) : seqV (V ++ [v]) = v.s := by simp [seqV]
/-- What a put answers: what is wrong. -/
def putE (V : List Vs) (v : Vs) : Int :=
  if v.s < 1 ∨ v.s < seqV V then 24 else match latP V v.pl v.s with | none => 0 | some o => if o.s = v.s then 17 else 0
/-- What is there then. -/
def putV (V : List Vs) (v : Vs) : List Vs := if putE V v = 0 then V ++ [v] else V
/-- The old one. -/
def oldV (V : List Vs) (v : Vs) : Option Vs := if putE V v = 0 then latP V v.pl v.s else none
/-- A call: what is wrong with the fact, or with the put. -/
def Vs.norm (v : Vs) : Vs := if v.c then ⟨v.s, true, v.k, v.d, 0, 0, v.p⟩ else ⟨v.s, false, v.k, v.d, v.n, v.m, 0⟩
def factE (v : Vs) : Int := if v.c then wrongH ⟨v.k, v.d, v.p⟩ else wrongX ⟨v.k, v.d, v.n, v.m⟩
def callE (V : List Vs) (v : Vs) : Int := if factE v = 0 then putE V v.norm else factE v
def callV (V : List Vs) (v : Vs) : List Vs := if factE v = 0 then putV V v.norm else V
def callO (V : List Vs) (v : Vs) : Option Vs := if factE v = 0 then oldV V v.norm else none
theorem norm_pl (v : Vs) : v.norm.pl = v.pl := by unfold Vs.norm Vs.pl; cases h : v.c <;> simp
theorem norm_s (v : Vs) : v.norm.s = v.s := by unfold Vs.norm; split <;> rfl

end Go.Proofs.Ytkloijkfaooodaa
