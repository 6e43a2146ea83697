/- Package entry: Total. -/
import Derived.Test.YtmjgcenhgpkhiaaDoorEntH
import Derived.Test.YtmjgcenhgpkhiaaDoorMgC
namespace Go.Proofs.YtmjgcenhgpkhiaaDoor
open Go.RowKit
set_option linter.unusedVariables false
set_option maxRecDepth 100000
set_option linter.unusedSimpArgs false

/-- An entry, and where its lines lie. -/
structure En where
  s : Six
  a : Option Addr
  cap : Nat
  ls : List Ln
def En.at (es : List En) (i : Nat) : En := es.getD i ⟨zero6, none, 0, []⟩
def En.cs (e : En) : List Value := [.int .i64 e.s.con, .int .i64 e.s.day, .int .i64 e.s.cur, .int .i64 e.s.seq, .int .i64 e.s.per, .int .i64 e.s.ref, .slice e.a e.ls.length e.cap]
def En.row (es : List En) (i : Nat) : List Value := (En.at es i).cs
structure EnOk (w : World) (e : En) : Prop where
  ln : LnAt w e.a e.ls
  wf : AllWf e.ls
  few : e.ls.length ≤ 1000
  nil : e.a = none → e.ls.length = 0 ∧ e.cap = 0
theorem EnOk.after {w w' : World} {e : En} (h : EnOk w e) (hb : Below w.heap.size w w') : EnOk w' e := ⟨h.ln.after hb, h.wf, h.few, h.nil⟩
def EnsAt (w : World) (a : Option Addr) (es : List En) : Prop := RowsAt w a es.length 7 (En.row es) ∧ ∀ i, i < es.length → EnOk w (En.at es i)
theorem EnsAt.after {w w' : World} {a : Option Addr} {es : List En} (h : EnsAt w a es) (hb : Below w.heap.size w w') : EnsAt w' a es := ⟨h.1.after hb, fun i hi => (h.2 i hi).after hb⟩

/-- Does a line of an entry count? -/
def hit (t : Ln) (party : Int) (e : En) (l : Ln) : Bool := decide (e.s.tag = t) && decide (l.p = party)
theorem hit_tag {t : Ln} {party : Int} {e : En} {l : Ln} (h : ¬ e.s.tag = t) : hit t party e l = false := by unfold hit; rw [decide_eq_false h, Bool.false_and]
theorem hit_party {t : Ln} {party : Int} {e : En} {l : Ln} (h : ¬ l.p = party) : hit t party e l = false := by unfold hit; rw [decide_eq_false h, Bool.and_false]
def totIn (t : Ln) (party : Int) (e : En) (j : Nat) : List Int := ((e.ls.take j).filter (hit t party e)).map Ln.a
def totK (t : Ln) (party : Int) (es : List En) : Nat → List Int
  | 0 => []
  | k + 1 => totK t party es k ++ totIn t party (En.at es k) (En.at es k).ls.length
theorem totIn_yes {t : Ln} {party : Int} {e : En} {j : Nat} (hj : j < e.ls.length) (h : hit t party e (Ln.at e.ls j) = true) : totIn t party e (j + 1) = totIn t party e j ++ [(Ln.at e.ls j).a] := by
  unfold totIn
  rw [List.take_succ_eq_append_getElem hj, List.filter_append, List.map_append]
  have e1 : e.ls[j] = Ln.at e.ls j := by unfold Ln.at; rw [List.getD_eq_getElem?_getD, List.getElem?_eq_getElem hj]; rfl
  rw [e1, List.filter_cons, if_pos h]
  rfl
theorem totIn_no {t : Ln} {party : Int} {e : En} {j : Nat} (hj : j < e.ls.length) (h : hit t party e (Ln.at e.ls j) = false) : totIn t party e (j + 1) = totIn t party e j := by
  unfold totIn
  rw [List.take_succ_eq_append_getElem hj, List.filter_append, List.map_append]
  have e1 : e.ls[j] = Ln.at e.ls j := by unfold Ln.at; rw [List.getD_eq_getElem?_getD, List.getElem?_eq_getElem hj]; rfl
  rw [e1, List.filter_cons, if_neg (by rw [h]; decide)]
  simp
theorem totIn_len (t : Ln) (party : Int) (e : En) (j : Nat) (hf : e.ls.length ≤ 1000) : (totIn t party e j).length ≤ 1000 := by
  unfold totIn
  have := List.length_filter_le (hit t party e) (e.ls.take j)
  have h2 := List.length_take_le' j e.ls
  rw [List.length_map]
  omega
theorem totK_len (t : Ln) (party : Int) (es : List En) (hf : ∀ i, i < es.length → (En.at es i).ls.length ≤ 1000) : ∀ k, k ≤ es.length → (totK t party es k).length ≤ 1000 * k
  | 0, _ => by simp [totK]
  | k + 1, h => by
    have h1 := totK_len t party es hf k (by omega)
    have h2 := totIn_len t party (En.at es k) (En.at es k).ls.length (hf k (by omega))
    rw [totK, List.length_append]
    omega
theorem totIn_wf (t : Ln) (party : Int) (e : En) (j : Nat) (hw : AllWf e.ls) : ∀ x ∈ totIn t party e j, -9223372036854775808 ≤ x ∧ x ≤ 9223372036854775807 := fun x hx => by
  unfold totIn at hx
  obtain ⟨l, hl, rfl⟩ := List.mem_map.1 hx
  exact (hw l (List.mem_of_mem_take (List.mem_filter.1 hl).1)).2.2
theorem totK_wf (t : Ln) (party : Int) (es : List En) (hw : ∀ i, i < es.length → AllWf (En.at es i).ls) : ∀ k, k ≤ es.length → ∀ x ∈ totK t party es k, -9223372036854775808 ≤ x ∧ x ≤ 9223372036854775807
  | 0, _, x, hx => by simp [totK] at hx
  | k + 1, h, x, hx => by
    rw [totK, List.mem_append] at hx
    rcases hx with hx | hx
    · exact totK_wf t party es hw k (by omega) x hx
    · exact totIn_wf t party _ _ (hw k (by omega)) x hx

/-- Integers as cells. -/
def intsV (xs : List Int) : List Value := xs.map (Value.int .i64)
theorem intsV_snoc (xs : List Int) (x : Int) : intsV (xs ++ [x]) = intsV xs ++ [.int .i64 x] := by simp [intsV]
theorem owned_ints {w : World} {base n : Nat} {v : Value} {xs : List Int} (h : w.ownsRow base 3 1 v n (intsV xs)) :
    ∃ c cap, v = .slice c n cap ∧ xs.length = n ∧ (c = none → n = 0 ∧ cap = 0) ∧ n ≤ cap ∧ cap ≤ maxLen ∧ (∀ x, c = some x → base ≤ x.block ∧ x.block < w.heap.size) ∧ RowAt w c n (numV xs) := by
  have hn : xs.length = n := by have := h.1; simpa [intsV] using this
  obtain ⟨a, cap, rfl, g0, g1, g2, g3, h4⟩ := owned_parts h
  rw [Nat.mul_one] at h4
  refine ⟨a, cap, rfl, hn, g0, g1, g2, g3, h4.congr fun i hi => ?_⟩
  unfold numV intsV
  rw [List.getD_eq_getElem?_getD, List.getElem?_map, List.getD_eq_getElem?_getD, List.getElem?_eq_getElem (by omega)]
  rfl

end Go.Proofs.YtmjgcenhgpkhiaaDoor
