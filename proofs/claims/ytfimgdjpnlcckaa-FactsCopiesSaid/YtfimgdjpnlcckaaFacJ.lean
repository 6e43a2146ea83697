/- Facts, plainly: what is told one by one; the document's Put, Get, First. No program. -/
import Derived.Test.YtfimgdjpnlcckaaFacC
namespace Go.Proofs.Ytfimgdjpnlcckaa
set_option linter.unusedVariables false
set_option linter.unusedSimpArgs false

/-- A fact that is told. -/
structure Tl where
  c : Bool
  k : Int
  d : Int
  n : Int
  m : Int
  p : Int
deriving instance DecidableEq for Tl
instance : Inhabited Tl := ⟨⟨false, 0, 0, 0, 0, 0⟩⟩
def Tl.fx (x : Tl) : Fx := ⟨x.k, x.d, x.n, x.m⟩
def Tl.ch (x : Tl) : Ch := ⟨x.k, x.d, x.p⟩
def Tl.ky (x : Tl) : KD := (x.k, x.d)
def encT (x : Tl) : List Value := [.bool x.c, .int .i64 x.k, .int .i64 x.d, .int .i64 x.n, .int .i64 x.m, .int .i64 x.p]
structure Tl.Ok (x : Tl) : Prop where
  k : I64 x.k
  d : I64 x.d
  n : I64 x.n
  m : I64 x.m
  p : I64 x.p
/-- What is wrong with it. -/
def wrongT (x : Tl) : Int := if x.c then wrongH x.ch else wrongX x.fx
abbrev St := List Fx × List Ch
/-- What is known then. -/
def tellS (s : St) (x : Tl) : St :=
  if x.c then (s.1, if wrongH x.ch = 0 then putK Ch.ky s.2 x.ch else s.2) else (if wrongX x.fx = 0 then putK Fx.ky s.1 x.fx else s.1, s.2)
def madeS (l : List Tl) : St := l.foldl tellS ([], [])
theorem madeS_snoc (l : List Tl) (x : Tl) : madeS (l ++ [x]) = tellS (madeS l) x := by simp [madeS]
theorem madeS_append (l l' : List Tl) : madeS (l ++ l') = l'.foldl tellS (madeS l) := by simp [madeS]
def St.Ok (s : St) : Prop := Rising Fx.ky s.1 ∧ Rising Ch.ky s.2
theorem tellS_ok {s : St} (h : s.Ok) (x : Tl) : (tellS s x).Ok := by
  unfold tellS
  split
  · refine ⟨h.1, ?_⟩
    dsimp only
    split
    · exact putK_rising h.2
    · exact h.2
  · refine ⟨?_, h.2⟩
    dsimp only
    split
    · exact putK_rising h.1
    · exact h.1
theorem fold_ok : ∀ (l : List Tl) {s : St}, s.Ok → (l.foldl tellS s).Ok
  | [], _, h => h
  | x :: l, _, h => fold_ok l (tellS_ok h x)
theorem madeS_ok (l : List Tl) : (madeS l).Ok := fold_ok l ⟨Rising.nil, Rising.nil⟩
theorem tellS_len (s : St) (x : Tl) : (tellS s x).1.length ≤ s.1.length + 1 ∧ (tellS s x).2.length ≤ s.2.length + 1 := by
  unfold tellS
  split
  · refine ⟨by simp, ?_⟩
    dsimp only
    split
    · exact putK_len _ _
    · omega
  · refine ⟨?_, by simp⟩
    dsimp only
    split
    · exact putK_len _ _
    · omega
theorem fold_len : ∀ (l : List Tl) (s : St), (l.foldl tellS s).1.length ≤ s.1.length + l.length ∧ (l.foldl tellS s).2.length ≤ s.2.length + l.length
  | [], s => by simp
  | x :: l, s => by
    have h1 := tellS_len s x
    have h2 := fold_len l (tellS s x)
    simp only [List.foldl_cons, List.length_cons]
    omega
theorem madeS_len (l : List Tl) : (madeS l).1.length ≤ l.length ∧ (madeS l).2.length ≤ l.length := by
  have := fold_len l ([], [])
  simpa [madeS] using this

/-! ### The document's lists -/
/-- A fact as the document has it. -/
structure Fc where
  k : Int
  d : Int
  n : Int
  m : Int
  p : Int
deriving instance DecidableEq for Fc
instance : Inhabited Fc := ⟨⟨0, 0, 0, 0, 0⟩⟩
def Fc.ky (x : Fc) : KD := (x.k, x.d)
def encF (x : Fc) : List Value := [.int .i64 x.k, .int .i64 x.d, .int .i64 x.n, .int .i64 x.m, .int .i64 x.p]
def Fx.fc (x : Fx) : Fc := ⟨x.k, x.d, x.n, x.m, 0⟩
def Ch.fc (x : Ch) : Fc := ⟨x.k, x.d, 0, 0, x.p⟩
theorem putK_map {α β : Type} {ky : α → KD} {ky' : β → KD} {f : α → β} (h : ∀ x, ky' (f x) = ky x) (x : α) : ∀ l : List α, (putK ky l x).map f = putK ky' (l.map f) (f x)
  | [] => rfl
  | y :: l => by
    have ih := putK_map h x l
    unfold putK
    rw [List.map_cons]
    dsimp only
    rw [h, h]
    split
    · rfl
    · split
      · rfl
      · rw [List.map_cons, ih]
theorem rising_map {α β : Type} {ky : α → KD} {ky' : β → KD} {f : α → β} (h : ∀ x, ky' (f x) = ky x) {l : List α} (hl : Rising ky l) : Rising ky' (l.map f) := by
  unfold Rising at *
  rw [List.pairwise_map]
  exact hl.imp fun {a b} hab => by rw [h, h]; exact hab

/-- A round of Put. -/
def putGo (x y : Fc) (s : Bool × List Fc) : Bool × List Fc :=
  let s1 := if s.1 = false ∧ (x.k < y.k ∨ (y.k = x.k ∧ x.d ≤ y.d)) then (true, s.2 ++ [x]) else s
  (s1.1, if y.k ≠ x.k ∨ y.d ≠ x.d then s1.2 ++ [y] else s1.2)
def putF (l : List Fc) (x : Fc) : Bool × List Fc := l.foldl (fun s y => putGo x y s) (false, [])
def putEnd (x : Fc) (s : Bool × List Fc) : List Fc := if s.1 then s.2 else s.2 ++ [x]
theorem putGo_in {x : Fc} : ∀ (l : List Fc) (out : List Fc), (∀ y ∈ l, y.ky ≠ x.ky) → l.foldl (fun s y => putGo x y s) (true, out) = (true, out ++ l)
  | [], out, _ => by simp
  | y :: l, out, h => by
    have hy : y.k ≠ x.k ∨ y.d ≠ x.d := by
      have := h y (by simp)
      by_cases e : y.k = x.k
      · exact Or.inr fun e' => this (by unfold Fc.ky; rw [e, e'])
      · exact Or.inl e
    rw [List.foldl_cons]
    have e : putGo x y (true, out) = (true, out ++ [y]) := by unfold putGo; simp [hy]
    rw [e, putGo_in l _ (fun z hz => h z (by simp [hz]))]
    simp
theorem putGo_out {x : Fc} : ∀ (l : List Fc) (out : List Fc), Rising Fc.ky l → putEnd x (l.foldl (fun s y => putGo x y s) (false, out)) = out ++ putK Fc.ky l x
  | [], out, _ => by simp [putEnd, putK]
  | y :: l, out, h => by
    obtain ⟨h1, h2⟩ := List.pairwise_cons.1 h
    rw [List.foldl_cons]
    unfold putK
    by_cases hlt : ltK x.ky y.ky
    · rw [if_pos hlt]
      have e : putGo x y (false, out) = (true, out ++ [x, y]) := by
        unfold ltK Fc.ky at hlt
        dsimp only at hlt
        unfold putGo
        rw [if_pos ⟨rfl, by omega⟩]
        simp only
        rw [if_pos (by omega)]
        simp
      rw [e, putGo_in l _ (fun z hz => (ltK_ne (ltK_trans hlt (h1 z hz))).symm)]
      simp [putEnd]
    · rw [if_neg hlt]
      by_cases he : y.ky = x.ky
      · rw [if_pos he]
        have he' : y.k = x.k ∧ y.d = x.d := by unfold Fc.ky at he; simpa using he
        have e : putGo x y (false, out) = (true, out ++ [x]) := by
          unfold putGo
          rw [if_pos ⟨rfl, by omega⟩]
          simp only
          rw [if_neg (by omega)]
        rw [e, putGo_in l _ (fun z hz => by rw [← he]; exact (ltK_ne (h1 z hz)).symm)]
        simp [putEnd]
      · rw [if_neg he]
        have e : putGo x y (false, out) = (false, out ++ [y]) := by
          have hyx := ltK_total hlt (fun e => he e.symm)
          unfold ltK Fc.ky at hyx
          dsimp only at hyx
          unfold putGo
          rw [if_neg (by omega)]
          simp only
          rw [if_pos (by omega)]
        rw [e, putGo_out l _ h2]
        simp
theorem putF_eq {l : List Fc} (h : Rising Fc.ky l) (x : Fc) : putEnd x (putF l x) = putK Fc.ky l x := by
  have := putGo_out (x := x) l [] h
  simpa [putF] using this
theorem putF_snoc (l : List Fc) (x y : Fc) : putF (l ++ [y]) x = putGo x y (putF l x) := by simp [putF]
theorem putF_len (x : Fc) : ∀ (l : List Fc) (s : Bool × List Fc), (l.foldl (fun s y => putGo x y s) s).2.length ≤ s.2.length + 2 * l.length
  | [], s => by simp
  | y :: l, s => by
    rw [List.foldl_cons, List.length_cons]
    refine Nat.le_trans (putF_len x l _) ?_
    have : (putGo x y s).2.length ≤ s.2.length + 2 := by
      unfold putGo
      dsimp only
      split <;> split <;> simp
    omega

/-- The first choice of a kind from a day to another one. -/
def firstF (l : List Fc) (k a b p : Int) : Option Fc := l.find? fun x => decide (x.k = k ∧ a ≤ x.d ∧ x.d ≤ b ∧ x.p = p)
def firstH (l : List Ch) (k a b p : Int) : Option Ch := l.find? fun x => decide (x.k = k ∧ a ≤ x.d ∧ x.d ≤ b ∧ x.p = p)
theorem first_map (l : List Ch) (k a b p : Int) : firstF (l.map Ch.fc) k a b p = (firstH l k a b p).map Ch.fc := by
  unfold firstF firstH
  rw [List.find?_map]
  rfl
theorem get_map {α : Type} {ky : α → KD} {f : α → Fc} (h : ∀ x, Fc.ky (f x) = ky x) (l : List α) (p : KD) : getK Fc.ky (l.map f) p = (getK ky l p).map f := by
  unfold getK
  rw [List.find?_map]
  have e : ((fun x => decide (Fc.ky x = p)) ∘ f) = fun x => decide (ky x = p) := by
    funext x
    simp [h]
  rw [e]

/-- Plain's lists. -/
abbrev Pl := List Fc × List Fc
def plainS (s : Pl) (x : Tl) : Pl :=
  if wrongT x = 0 then (if x.c then (s.1, putK Fc.ky s.2 x.ch.fc) else (putK Fc.ky s.1 x.fx.fc, s.2)) else s
theorem plain_tell (s : St) (x : Tl) : plainS (s.1.map Fx.fc, s.2.map Ch.fc) x = ((tellS s x).1.map Fx.fc, (tellS s x).2.map Ch.fc) := by
  have e1 := putK_map (ky := Fx.ky) (ky' := Fc.ky) (f := Fx.fc) (fun _ => rfl) x.fx s.1
  have e2 := putK_map (ky := Ch.ky) (ky' := Fc.ky) (f := Ch.fc) (fun _ => rfl) x.ch s.2
  unfold plainS tellS wrongT
  cases x.c
  · simp only [Bool.false_eq_true, if_false]
    split
    · rw [e1]
    · rfl
  · simp only [if_true]
    split
    · rw [e2]
    · rfl
theorem plain_fold : ∀ (l : List Tl) (s : St), l.foldl plainS (s.1.map Fx.fc, s.2.map Ch.fc) = ((l.foldl tellS s).1.map Fx.fc, (l.foldl tellS s).2.map Ch.fc)
  | [], _ => rfl
  | x :: l, s => by rw [List.foldl_cons, plain_tell, plain_fold l, List.foldl_cons]
theorem plain_made (l : List Tl) : l.foldl plainS ([], []) = ((madeS l).1.map Fx.fc, (madeS l).2.map Ch.fc) := plain_fold l ([], [])

end Go.Proofs.Ytfimgdjpnlcckaa
