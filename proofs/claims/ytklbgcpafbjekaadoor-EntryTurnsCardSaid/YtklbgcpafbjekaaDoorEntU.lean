/- The statement EntryTotals: plain laws, and its loop. -/
import Derived.Test.YtklbgcpafbjekaaDoorEntT
namespace Go.Proofs.YtklbgcpafbjekaaDoor
open Go.RowKit
set_option linter.unusedVariables false
set_option linter.unusedSimpArgs false

/-! ### Plain laws -/
theorem sum_app (a b : List Int) : (a ++ b).sum = a.sum + b.sum := List.sum_append
theorem totK_congr {t : Ln} {party : Int} {es ps : List En} : ∀ k, (∀ i, i < k → (En.at ps i).s = (En.at es i).s ∧ (En.at ps i).ls = (En.at es i).ls) → totK t party ps k = totK t party es k
  | 0, _ => rfl
  | k + 1, h => by
    rw [totK, totK, totK_congr k fun i hi => h i (by omega)]
    obtain ⟨h1, h2⟩ := h k (by omega)
    have : totIn t party (En.at ps k) (En.at ps k).ls.length = totIn t party (En.at es k) (En.at es k).ls.length := by
      unfold totIn hit
      rw [h1, h2]
    rw [this]
theorem totK_sum (t : Ln) (party : Int) (es : List En) : ∀ k, (totK t party es k).sum = ((List.range k).map fun i => (totIn t party (En.at es i) (En.at es i).ls.length).sum).sum
  | 0 => rfl
  | k + 1 => by rw [totK, sum_app, totK_sum t party es k, List.range_succ, List.map_append, sum_app]; simp
theorem at_rev {es : List En} {i : Nat} (h : i < es.length) : En.at es.reverse i = En.at es (es.length - 1 - i) := by
  unfold En.at
  rw [List.getD_eq_getElem?_getD, List.getD_eq_getElem?_getD, List.getElem?_reverse h]
theorem sum_back (f : Nat → Int) : ∀ n, ((List.range n).map fun i => f (n - 1 - i)).sum = ((List.range n).map f).sum
  | 0 => rfl
  | n + 1 => by
    rw [List.range_succ_eq_map, List.map_cons, List.sum_cons, List.map_map, ← List.range_succ_eq_map, List.range_succ (n := n), List.map_append, sum_app]
    have e : ((fun i => f (n + 1 - 1 - i)) ∘ Nat.succ) = fun i => f (n - 1 - i) := by
      funext i
      show f (n + 1 - 1 - (i + 1)) = _
      congr 1
      omega
    rw [e, sum_back f n]
    simp
    omega
theorem totK_rev (t : Ln) (party : Int) (es : List En) : (totK t party es.reverse es.length).sum = (totK t party es es.length).sum := by
  rw [totK_sum, totK_sum]
  have : ((List.range es.length).map fun i => (totIn t party (En.at es.reverse i) (En.at es.reverse i).ls.length).sum) = (List.range es.length).map fun i => (fun j => (totIn t party (En.at es j) (En.at es j).ls.length).sum) (es.length - 1 - i) := by
    refine List.map_congr_left fun i hi => ?_
    rw [at_rev (by simpa using hi)]
  rw [this]
  exact sum_back (fun j => (totIn t party (En.at es j) (En.at es j).ls.length).sum) es.length

/-! ### Memory -/
theorem own_kept {w w1 : World} {b b' size size' n n' : Nat} {e e' : TypeId} {v v' : Value} {xs xs' : List Value} (h : w.ownsRow b e size v n xs) (h' : w.ownsRow b' e' size' v' n' xs') (hne : e ≠ e') (hg : w.grownBy w1 v'.ownBlock) : w1.ownsRow b e size v n xs := by
  refine h.kept hg ?_
  rcases h.2 with ⟨rfl, _⟩ | ⟨g, cap, cur, rfl, _, hh, _⟩
  · exact Or.inl rfl
  · rcases h'.2 with ⟨rfl, _⟩ | ⟨g', cap', cur', rfl, _, hh', _⟩
    · exact Or.inr (by simp [Value.ownBlock])
    · refine Or.inr fun eq => hne ?_
      simp only [Value.ownBlock, Option.some.injEq] at eq
      subst eq
      rw [hh] at hh'
      simp only [Option.some.injEq, Obj.cells.injEq] at hh'
      exact hh'.2.1
theorem flatF_congr {f g : Nat → List Value} : ∀ n, (∀ i, i < n → f i = g i) → flatF f n = flatF g n
  | 0, _ => rfl
  | n + 1, h => by rw [flatF, flatF, flatF_congr n fun i hi => h i (by omega), h n (by omega)]

theorem infoEnt : (Tryd.prog.info? 26).map (fun i => (i.zero, i.size, i.bytes)) = some (some (.agg #[.int .i64 0, .int .i64 0, .int .i64 0, .int .i64 0, .int .i64 0, .int .i64 0, .slice none 0 0]), 7, 72) := by kernel_rfl
theorem infoREnt : (Tryd.prog.info? 35).map (fun i => (i.zero, i.size, i.bytes)) = some (some (.agg #[.int .i64 0, .int .i64 0, .int .i64 0, .int .i64 0, .int .i64 0, .int .i64 0, .slice none 0 0]), 7, 72) := by kernel_rfl

/-- What the loop has collected: the entries as the document's answer has them, and the entries backwards. -/
def TotRel (es : List En) (wa : World) (k : Nat) (v7 v8 : Value) (wr : World) : Prop :=
  ∃ ps : List En, ps.length = k ∧ (∀ i, i < k → (En.at ps i).s = (En.at es i).s ∧ (En.at ps i).ls = (En.at es i).ls ∧ ((En.at ps i).a = none → (En.at ps i).ls.length = 0 ∧ (En.at ps i).cap = 0) ∧ (En.at es i).ls.length ≤ 20
      ∧ wr.ownsRow wa.heap.size 60 3 (.slice (En.at ps i).a (En.at ps i).ls.length (En.at ps i).cap) (En.at ps i).ls.length (flatF (lnRow (En.at ps i).ls) (En.at ps i).ls.length))
    ∧ wr.ownsRow wa.heap.size 35 7 v7 k (flatF (En.row ps) k) ∧ wr.ownsRow wa.heap.size 26 7 v8 k (flatF (En.row es.reverse) k) ∧ Below wa.heap.size wa wr

theorem TotRel.step {es : List En} {wa : World} {k : Nat} {v7 v8 v7' v8' : Value} {wr w2 w3 w4 w5 w6 : World} {ps : List En} {p : En} (hk : ps.length = k)
    (hps : ∀ i, i < k → (En.at ps i).s = (En.at es i).s ∧ (En.at ps i).ls = (En.at es i).ls ∧ ((En.at ps i).a = none → (En.at ps i).ls.length = 0 ∧ (En.at ps i).cap = 0) ∧ (En.at es i).ls.length ≤ 20
      ∧ wr.ownsRow wa.heap.size 60 3 (.slice (En.at ps i).a (En.at ps i).ls.length (En.at ps i).cap) (En.at ps i).ls.length (flatF (lnRow (En.at ps i).ls) (En.at ps i).ls.length))
    (hs : p.s = (En.at es k).s) (hls : p.ls = (En.at es k).ls) (hn : p.a = none → p.ls.length = 0 ∧ p.cap = 0) (hf : (En.at es k).ls.length ≤ 20)
    (b2 : Below wr.heap.size wr w2) (ho : w2.ownsRow wa.heap.size 60 3 (.slice p.a p.ls.length p.cap) p.ls.length (flatF (lnRow p.ls) p.ls.length))
    (b3 : Below w2.heap.size w2 w3) (o3 : w3.ownsRow wa.heap.size 35 7 v7 k (flatF (En.row ps) k)) (g4 : w3.grownBy w4 v7.ownBlock) (o4 : w4.ownsRow wa.heap.size 35 7 v7' (k + 1) (flatF (En.row ps) k ++ p.cs))
    (o8 : wr.ownsRow wa.heap.size 26 7 v8 k (flatF (En.row es.reverse) k)) (b5 : Below w4.heap.size w4 w5) (g6 : w5.grownBy w6 v8.ownBlock) (o6 : w6.ownsRow wa.heap.size 26 7 v8' (k + 1) (flatF (En.row es.reverse) (k + 1)))
    (hbl : Below wa.heap.size wa w6) : TotRel es wa (k + 1) v7' v8' w6 := by
  have hat : ∀ i, i < k → En.at (ps ++ [p]) i = En.at ps i := fun i hi => by
    unfold En.at
    rw [List.getD_eq_getElem?_getD, List.getD_eq_getElem?_getD, List.getElem?_append_left (by omega)]
  have hat' : En.at (ps ++ [p]) k = p := by
    unfold En.at
    rw [List.getD_eq_getElem?_getD, List.getElem?_append_right (by omega), hk]
    simp
  have o8' := own_after (own_kept (own_after (own_after o8 b2) b3) o3 (by decide) g4) b5
  have up : ∀ {v : Value} {n : Nat} {xs : List Value}, w2.ownsRow wa.heap.size 60 3 v n xs → w6.ownsRow wa.heap.size 60 3 v n xs := fun h =>
    own_kept (own_after (own_kept (own_after h b3) o3 (by decide) g4) b5) o8' (by decide) g6
  refine ⟨ps ++ [p], by simp [hk], fun i hi => ?_, ?_, o6, hbl⟩
  · rcases Nat.lt_or_ge i k with g | g
    · rw [hat i g]
      obtain ⟨q1, q2, q3, q4, q5⟩ := hps i g
      exact ⟨q1, q2, q3, q4, up (own_after q5 b2)⟩
    · obtain rfl : i = k := by omega
      rw [hat']
      exact ⟨hs, hls, hn, hf, up ho⟩
  · have e : flatF (En.row (ps ++ [p])) (k + 1) = flatF (En.row ps) k ++ p.cs := by
      rw [flatF, flatF_congr k (g := En.row ps) fun i hi => by unfold En.row; rw [hat i hi]]
      unfold En.row
      rw [hat']
    rw [e]
    exact own_kept (own_after o4 b5) o8' (by decide) g6

end Go.Proofs.YtklbgcpafbjekaaDoor
