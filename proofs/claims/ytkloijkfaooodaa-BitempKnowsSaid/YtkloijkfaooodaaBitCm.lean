/- slices.Values' iterator of versions, where what it reads lies between two marks; All. -/
import Derived.Test.YtkloijkfaooodaaBitBu
namespace Go.Proofs.Ytkloijkfaooodaa
open Go.RowKit Go.Sort Go.Shelf
set_option linter.unusedVariables false
set_option linter.unusedSimpArgs false
attribute [local go_sem] Oper.semAt_some

/-- The blocks between two marks are as they were. -/
structure Mid (n₁ n₀ : Nat) (W W' : World) : Prop where
  same : ∀ k, n₁ ≤ k → k < n₀ → W'.heap[k]? = W.heap[k]?
  size : W.heap.size ≤ W'.heap.size
theorem Mid.refl (n₁ n₀ : Nat) (W : World) : Mid n₁ n₀ W W := ⟨fun _ _ _ => rfl, Nat.le_refl _⟩
theorem Mid.trans {n₁ n₀ : Nat} {A B C : World} (h : Mid n₁ n₀ A B) (k : Mid n₁ n₀ B C) : Mid n₁ n₀ A C := ⟨fun i h1 h2 => (k.same i h1 h2).trans (h.same i h1 h2), Nat.le_trans h.size k.size⟩
theorem Mid.of_below {n₁ n₀ : Nat} {W W' : World} (h : RowKit.Below n₀ W W') : Mid n₁ n₀ W W' := ⟨fun k _ h2 => h.block k h2, h.size⟩
theorem Mid.of_turn {n₁ n₀ : Nat} {bs : List Nat} {W W' : World} (h : Turn bs W W') (hn : n₀ ≤ W.heap.size) (hb : ∀ b ∈ bs, b < n₁ ∨ n₀ ≤ b) : Mid n₁ n₀ W W' := ⟨fun k h1 h2 => h.block k (by omega) fun hk => by rcases hb k hk with h | h <;> omega, h.size⟩
theorem mid_b {n₁ n₀ : Nat} {w : World} (hn : n₀ ≤ w.heap.size) (W : World) (l : Nat) (o o' : Obj) (hl : w.heap.size ≤ l) (h : W.heap[l]? = some o) (_ : o.isCells = false) (_ : o.isWalk = false) : Mid n₁ n₀ W (W.putObj l o') :=
  ⟨fun k h1 h2 => World.putObj_heap_other (by omega), (grownBy_putObj' W l o').size⟩
theorem Mid.rows {n₁ n₀ : Nat} {W W' : World} {a : Option Addr} {n size : Nat} {f : Nat → List Value} (h : Mid n₁ n₀ W W') (hR : RowsAt W a n size f) (ha : ∀ x, a = some x → n₁ ≤ x.block ∧ x.block < n₀) : RowsAt W' a n size f := fun hl => by
  obtain ⟨b, o, e, hc⟩ := hR hl
  have := ha _ e
  exact ⟨b, o, e, fun i hi j v hv => (World.cell?_of_block (a := ⟨b, _, none⟩) (h.same b this.1 this.2)).trans (hc i hi j v hv)⟩
def SeqM (w : World) (n₁ n₀ Bs : Nat) (l : List Vs) : Prop :=
  ∃ a cap, Blk w Bs #[.slice a l.length cap] 35 ∧ RecsAt w a 7 encS l ∧ (n₁ ≤ Bs ∧ Bs < n₀) ∧ ∀ x, a = some x → n₁ ≤ x.block ∧ x.block < n₀
theorem SeqM.mid {w w' : World} {n₁ n₀ Bs : Nat} {l : List Vs} (h : SeqM w n₁ n₀ Bs l) (hm : Mid n₁ n₀ w w') : SeqM w' n₁ n₀ Bs l := by
  obtain ⟨a, cap, h1, h2, h3, h4⟩ := h
  exact ⟨a, cap, (hm.same Bs h3.1 h3.2).trans h1, hm.rows h2 h4, h3, h4⟩
set_option maxRecDepth 100000 in
set_option maxHeartbeats 2000000 in
theorem valM_stops (n : Nat) (hn : 1 ≤ n) (n₁ n₀ Bs : Nat) (A : List Vs) (hl : A.length ≤ 2513169434910) (w0 : World) (h0 : SeqM w0 n₁ n₀ Bs A) (hn0 : n₀ ≤ w0.heap.size) :
    SeqStopsK Fence.wide n Try.prog 56 #[.pointer (some ⟨Bs, 0, none⟩)] encVV (Mid n₁ n₀) (fun xs => xs = A) (fun pre => pre <+: A) A.length w0 := fun l J Jx W hW hJ hJx hY hJ0 => by
  have HS := Lib.hid (h0.mid (Mid.of_below (hW.mono hn0)))
  obtain ⟨a, cap, hB, _⟩ := HS.out
  have q1 : W.cell? ⟨Bs, 0, none⟩ = some (.slice a A.length cap) := hB.cell 0 rfl
  have HR : Hid (RecsAt W a 7 encS A) := by
    obtain ⟨a', cap', hB', hR', _⟩ := HS.out
    have := hB.symm.trans hB'
    simp only [Option.some.injEq, Obj.cells.injEq, Array.mk.injEq, List.cons.injEq, Value.slice.injEq, and_true, true_and] at this
    obtain ⟨rfl, rfl⟩ := this
    exact hR'
  have HA : Hid (∀ x, a = some x → n₁ ≤ x.block ∧ x.block < n₀) := by
    obtain ⟨a', cap', hB', _, _, hA'⟩ := HS.out
    have := hB.symm.trans hB'
    simp only [Option.some.injEq, Obj.cells.injEq, Array.mk.injEq, List.cons.injEq, Value.slice.injEq, and_true, true_and] at this
    obtain ⟨rfl, rfl⟩ := this
    exact hA'
  have zW := hW.size
  clear hB h0
  refine callsIn_of_wp Try.func56 rfl trivial ?_ rfl
  simp only [Try.ntmps56, List.size_toArray, List.length_cons, List.length_nil, Nat.reduceAdd, Nat.reduceSub, Array.replicate_succ, Array.replicate_zero, List.push_toArray, List.append_toArray, List.nil_append, List.cons_append]
  gi_wp2_with fail
  gi_loopw [7] (fun c wr => ∃ j : Nat, j ≤ A.length ∧ c = .int .i64 (j : Int) ∧ J (A.take j) wr ∧ Mid n₁ n₀ W wr) (fun c _ => A.length - (intOf c).toNat)
  case atStart => exact ⟨0, by omega, rfl, hJ0, Mid.refl _ _ _⟩
  case round =>
    obtain ⟨j, hj, rfl, hJk, hbk⟩ := hrel
    have zk := hbk.size
    clear q1
    by_cases hlt : j < A.length
    · have hx := List.getElem?_eq_getElem hlt
      have HT : Hid (A.take (j + 1) = A.take j ++ [A[j]]) := List.take_succ_eq_append_getElem hlt
      obtain ⟨z, hz⟩ : ∃ z, A[j] = z := ⟨_, rfl⟩
      rw [hz] at hx HT
      have hR : RecsAt wr a 7 encS A := hbk.rows HR.out HA.out
      obtain ⟨b, o, rfl, _⟩ := hR (by omega)
      have hbk' : RowKit.Below wr.heap.size wr (wr.alloc (.cells (encS z).toArray 26)) := (RowKit.Below.refl _ _).alloc (Nat.le_refl _) _
      have hJ2 : J (A.take j) (wr.alloc (.cells (encS z).toArray 26)) := hJ _ wr _ none hJk (below_grownN hbk') (by rintro r ⟨⟩)
      obtain ⟨fn, tmps, assign, body, hy, hR3⟩ := hY _ z _ hJ2 (by rw [List.length_take]; omega)
      obtain ⟨xs, xc, xk, xd, xn, xm, xp⟩ := z
      dsimp only [encVV, encS] at hy hbk' hR3
      have hR0 : RecsAt wr (some ⟨b, o, none⟩) 7 encS A := hR
      have c0 : wr.cell? ⟨b, o + j * 7, none⟩ = some (.int .i64 xs) := RecsAt.cell hR rfl hlt hx (j := 0) rfl
      have c1 : wr.cell? ⟨b, o + j * 7 + 1, none⟩ = some (.bool xc) := RecsAt.cell hR rfl hlt hx (j := 1) rfl
      have c2 : wr.cell? ⟨b, o + j * 7 + 2, none⟩ = some (.int .i64 xk) := RecsAt.cell hR rfl hlt hx (j := 2) rfl
      have c3 : wr.cell? ⟨b, o + j * 7 + 3, none⟩ = some (.int .i64 xd) := RecsAt.cell hR rfl hlt hx (j := 3) rfl
      have c4 : wr.cell? ⟨b, o + j * 7 + 4, none⟩ = some (.int .i64 xn) := RecsAt.cell hR rfl hlt hx (j := 4) rfl
      have c5 : wr.cell? ⟨b, o + j * 7 + 5, none⟩ = some (.int .i64 xm) := RecsAt.cell hR rfl hlt hx (j := 5) rfl
      have c6 : wr.cell? ⟨b, o + j * 7 + 6, none⟩ = some (.int .i64 xp) := RecsAt.cell hR rfl hlt hx (j := 6) rfl
      clear hx hz hR hR0 hJ2
      gi_wp2_with fail
      refine hR3.mono ?_
      rintro e w3 (⟨rfl, hJ3, hk3⟩ | ⟨rfl, hJx3⟩)
      · rw [← HT.out] at hJ3
        have hB3 := (hbk.trans (Mid.of_below (hbk'.mono (by omega)))).trans hk3
        gi_wp2_with fail
        go_roundw
        case rel => exact ⟨j + 1, by omega, by go_num, hJ3, hB3⟩
        case measure => simp [intOf]; omega
      · rw [← HT.out] at hJx3
        gi_wp2_with fail
        refine bodyPost_ret (results_none rfl _ _ _) rfl ?_
        exact ⟨⟨_, rfl⟩, .inr ⟨_, List.take_prefix _ _, hJx3⟩⟩
    · obtain rfl : j = A.length := by omega
      rw [List.take_length] at hJk
      gi_wp2_with fail
      go_end0
      exact ⟨⟨_, rfl⟩, .inl ⟨_, rfl, hJk⟩⟩

def SeqMEnd (w : World) (A : List Vs) (e : Ending) (w' : World) : Prop :=
  ∃ Bs, e = .returned (.func (.func 56) #[] #[.pointer (some ⟨Bs, 0, none⟩)]) ∧ SeqM w' w.heap.size w'.heap.size Bs A ∧ RowKit.Below w.heap.size w w'
set_option maxHeartbeats 1000000 in
theorem ballM_ok (base p bm : Nat) (sv : Value) (V : List Vs) (w : World) (h : StAt w base p bm sv V) (hl : V.length ≤ 2513169434910) :
    Calls Try.prog 34 #[.pointer (some ⟨p, 0, none⟩)] w (SeqMEnd w V) := by
  have c0 : w.cell? ⟨p, 0, none⟩ = some sv := h.blk.cell 0 rfl
  have HC := Lib.hid (cloneVer_ok base sv _ _ w h.own (by omega) (cellsL_len (enc := encS) (size := 7) (fun _ => rfl) V) (cellsL_one encS_one V))
  clear h
  go_enter Try.func34, Try.ntmps34
  go_wp2_with fail
  with_reducible refine HC.out.mono ?_
  rintro e w1 ⟨cv, rfl, hown, hb1⟩
  obtain ⟨a, cap, rfl, _, _, _, hax, hR⟩ := owned_recs (enc := encS) (size := 7) (fun _ => rfl) hown rfl
  have HR := Lib.hid hR
  clear hR hown
  go_wp2_with fail
  with_reducible refine (valuesV_ok _ _ _ _).mono ?_
  rintro e w2 ⟨rfl, hw2⟩
  have HW := Lib.hid hw2
  clear hw2
  go_wp2_with fail
  go_ret
  obtain rfl := HW.out
  have bb : RowKit.Below w1.heap.size w1 (w1.alloc (.cells #[.slice a V.length cap] 35)) := (RowKit.Below.refl _ _).alloc (Nat.le_refl _) _
  exact ⟨w1.heap.size, rfl, ⟨a, cap, Blk.new _ _ _, HR.out.after bb, ⟨hb1.size, by simp⟩, fun x e => by have := hax x e; simp; omega⟩, hb1.trans (bb.mono hb1.size)⟩
theorem ballM_nil (w : World) : Calls Try.prog 34 #[.pointer none] w (SeqMEnd w []) := by
  go_enter Try.func34, Try.ntmps34
  go_wp2_with fail
  with_reducible refine (valuesV_ok _ _ _ _).mono ?_
  rintro e w2 ⟨rfl, hw2⟩
  have HW := Lib.hid hw2
  clear hw2
  go_wp2_with fail
  go_ret
  obtain rfl := HW.out
  exact ⟨w.heap.size, rfl, ⟨none, 0, Blk.new _ _ _, RowsAt.nil _ _ _ _, ⟨Nat.le_refl _, by simp⟩, fun x e => by cases e⟩, (RowKit.Below.refl _ _).alloc (Nat.le_refl _) _⟩

end Go.Proofs.Ytkloijkfaooodaa
