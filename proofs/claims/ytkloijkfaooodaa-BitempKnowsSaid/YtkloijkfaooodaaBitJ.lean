/- Package bitemp: slices.Values' iterator of versions; All, History. -/
import Derived.Test.YtkloijkfaooodaaBitF
namespace Go.Proofs.Ytkloijkfaooodaa
open Go.RowKit Go.Sort Go.Shelf
set_option linter.unusedVariables false
set_option linter.unusedSimpArgs false
attribute [local go_sem] Oper.semAt_some

abbrev encVV (x : Vs) : Array Value := #[.agg (encS x).toArray]
set_option maxRecDepth 100000 in
set_option maxHeartbeats 2000000 in
theorem valV_stops (n : Nat) (hn : 1 ≤ n) (n₀ Bs : Nat) (A : List Vs) (hl : A.length ≤ 2513169434910) (w0 : World) (h0 : SeqAt w0 n₀ Bs 7 35 encS A) (hn0 : n₀ ≤ w0.heap.size) :
    SeqStopsK Fence.wide n Try.prog 56 #[.pointer (some ⟨Bs, 0, none⟩)] encVV (RowKit.Below n₀) (fun xs => xs = A) (fun pre => pre <+: A) A.length w0 := fun l J Jx W hW hJ hJx hY hJ0 => by
  have HS := Lib.hid (h0.below (hW.mono hn0))
  obtain ⟨a, cap, hB, _⟩ := HS.out
  have q1 : W.cell? ⟨Bs, 0, none⟩ = some (.slice a A.length cap) := hB.cell 0 rfl
  have HR : Hid (RecsAt W a 7 encS A) := by
    obtain ⟨a', cap', hB', hR', _⟩ := HS.out
    have := hB.symm.trans hB'
    simp only [Option.some.injEq, Obj.cells.injEq, Array.mk.injEq, List.cons.injEq, Value.slice.injEq, and_true, true_and] at this
    obtain ⟨rfl, rfl⟩ := this
    exact hR'
  have HA : Hid (∀ x, a = some x → x.block < n₀) := by
    obtain ⟨a', cap', hB', _, _, hA'⟩ := HS.out
    have := hB.symm.trans hB'
    simp only [Option.some.injEq, Obj.cells.injEq, Array.mk.injEq, List.cons.injEq, Value.slice.injEq, and_true, true_and] at this
    obtain ⟨rfl, rfl⟩ := this
    exact hA'
  have zW := hW.size
  clear hB h0
  refine callsIn_of_wp Try.func56 rfl trivial ?_ rfl
  simp only [Try.ntmps56, List.size_toArray, List.length_cons, List.length_nil, Nat.reduceAdd, Nat.reduceSub, Array.replicate_succ, Array.replicate_zero, List.push_toArray, List.append_toArray, List.nil_append, List.cons_append]
  gi_wp2_with fail
  gi_loopw [7] (fun c wr => ∃ j : Nat, j ≤ A.length ∧ c = .int .i64 (j : Int) ∧ J (A.take j) wr ∧ RowKit.Below n₀ W wr) (fun c _ => A.length - (intOf c).toNat)
  case atStart => exact ⟨0, by omega, rfl, hJ0, RowKit.Below.refl _ _⟩
  case round =>
    obtain ⟨j, hj, rfl, hJk, hbk⟩ := hrel
    have zk := hbk.size
    clear q1
    by_cases hlt : j < A.length
    · have hx := List.getElem?_eq_getElem hlt
      have HT : Hid (A.take (j + 1) = A.take j ++ [A[j]]) := List.take_succ_eq_append_getElem hlt
      obtain ⟨z, hz⟩ : ∃ z, A[j] = z := ⟨_, rfl⟩
      rw [hz] at hx HT
      have hR := HR.out.below hbk HA.out
      obtain ⟨b, o, rfl, _⟩ := hR (by omega)
      have hbk' : RowKit.Below wr.heap.size wr (wr.alloc (.cells (encS z).toArray 26)) := (RowKit.Below.refl _ _).alloc (Nat.le_refl _) _
      have hJ2 : J (A.take j) (wr.alloc (.cells (encS z).toArray 26)) := hJ _ wr _ none hJk (below_grownN hbk') (by rintro r ⟨⟩)
      obtain ⟨fn, tmps, assign, body, hy, hR3⟩ := hY _ z _ hJ2 (by rw [List.length_take]; omega)
      obtain ⟨xs, xc, xk, xd, xn, xm, xp⟩ := z
      dsimp only [encVV, encS] at hy hbk' hR3
      have hR0 : RecsAt wr (some ⟨b, o, none⟩) 7 encS A := hR
      have c0 : wr.cell? ⟨b, o + j * 7, none⟩ = some (.int .i64 xs) := RecsAt.cell hR rfl hlt hx (j := 0) rfl
      have c1 : wr.cell? ⟨b, o + j * 7 + 1, none⟩ = some (.bool xc) := RecsAt.cell hR rfl hlt hx (j := 1) rfl
      have c2 : wr.cell? ⟨b, o + j * 7 + 2, none⟩ = some (.int .i64 xk) := RecsAt.cell hR rfl hlt hx (j := 2) rfl
      have c3 : wr.cell? ⟨b, o + j * 7 + 3, none⟩ = some (.int .i64 xd) := RecsAt.cell hR rfl hlt hx (j := 3) rfl
      have c4 : wr.cell? ⟨b, o + j * 7 + 4, none⟩ = some (.int .i64 xn) := RecsAt.cell hR rfl hlt hx (j := 4) rfl
      have c5 : wr.cell? ⟨b, o + j * 7 + 5, none⟩ = some (.int .i64 xm) := RecsAt.cell hR rfl hlt hx (j := 5) rfl
      have c6 : wr.cell? ⟨b, o + j * 7 + 6, none⟩ = some (.int .i64 xp) := RecsAt.cell hR rfl hlt hx (j := 6) rfl
      clear hx hz hR hR0 hJ2
      gi_wp2_with fail
      refine hR3.mono ?_
      rintro e w3 (⟨rfl, hJ3, hk3⟩ | ⟨rfl, hJx3⟩)
      · rw [← HT.out] at hJ3
        have hB3 := (hbk.trans (hbk'.mono (by omega))).trans hk3
        gi_wp2_with fail
        go_roundw
        case rel => exact ⟨j + 1, by omega, by go_num, hJ3, hB3⟩
        case measure => simp [intOf]; omega
      · rw [← HT.out] at hJx3
        gi_wp2_with fail
        refine bodyPost_ret (results_none rfl _ _ _) rfl ?_
        exact ⟨⟨_, rfl⟩, .inr ⟨_, List.take_prefix _ _, hJx3⟩⟩
    · obtain rfl : j = A.length := by omega
      rw [List.take_length] at hJk
      gi_wp2_with fail
      go_end0
      exact ⟨⟨_, rfl⟩, .inl ⟨_, rfl, hJk⟩⟩

def SeqVEnd (w : World) (A : List Vs) (e : Ending) (w' : World) : Prop :=
  ∃ Bs, e = .returned (.func (.func 56) #[] #[.pointer (some ⟨Bs, 0, none⟩)]) ∧ SeqAt w' w'.heap.size Bs 7 35 encS A ∧ RowKit.Below w.heap.size w w' ∧ w.heap.size ≤ Bs
theorem valuesV_ok (a : Option Addr) (n cap : Nat) (w : World) : Calls Try.prog 38 #[.slice a n cap] w fun e w' => e = .returned (.func (.func 56) #[] #[.pointer (some ⟨w.heap.size, 0, none⟩)]) ∧ w' = w.alloc (.cells #[.slice a n cap] 35) := by
  go_enter Try.func38, Try.ntmps38
  go_wp2_with fail
  go_ret
  exact ⟨rfl, rfl⟩
set_option maxHeartbeats 1000000 in
theorem bhist_any (pv : Value) (L : List Vs) (c : Bool) (k d : Int) (w : World) (h : Calls Try.prog 39 #[pv, pkV (c, k, d)] w (OfEnd w L)) :
    Calls Try.prog 14 #[pv, .bool c, .int .i64 k, .int .i64 d] w (SeqVEnd w L) := by
  have HC : Hid (Calls Try.prog 39 #[pv, .agg #[.bool c, .int .i64 k, .int .i64 d]] w (OfEnd w L)) := h
  clear h
  go_enter Try.func14, Try.ntmps14
  go_wp2_with fail
  with_reducible refine HC.out.mono ?_
  rintro e w1 ⟨a, cap, rfl, hR, hb1, hax⟩
  have HR := Lib.hid hR
  clear hR
  go_wp2_with fail
  with_reducible refine (valuesV_ok _ _ _ _).mono ?_
  rintro e w2 ⟨rfl, hw2⟩
  have HW := Lib.hid hw2
  clear hw2
  go_wp2_with fail
  go_ret
  obtain rfl := HW.out
  have bb : RowKit.Below w1.heap.size w1 (w1.alloc (.cells #[.slice a L.length cap] 35)) := (RowKit.Below.refl _ _).alloc (Nat.le_refl _) _
  exact ⟨w1.heap.size, rfl, ⟨a, cap, Blk.new _ _ _, HR.out.after bb, by simp, fun x e => by have := hax x e; simp; omega⟩, hb1.trans (bb.mono hb1.size), hb1.size⟩
theorem bhist_ok (base p bm : Nat) (sv : Value) (V : List Vs) (c : Bool) (k d : Int) (w : World) (h : StAt w base p bm sv V) (hl : V.length ≤ 2513169434910) :
    Calls Try.prog 14 #[.pointer (some ⟨p, 0, none⟩), .bool c, .int .i64 k, .int .i64 d] w (SeqVEnd w (ofP V (c, k, d))) := bhist_any _ _ c k d w (of_ok base p bm sv V (c, k, d) w h hl)
theorem bhist_nil (c : Bool) (k d : Int) (w : World) : Calls Try.prog 14 #[.pointer none, .bool c, .int .i64 k, .int .i64 d] w (SeqVEnd w []) := bhist_any _ _ c k d w (of_nil (c, k, d) w)

set_option maxHeartbeats 1000000 in
theorem ball_ok (base p bm : Nat) (sv : Value) (V : List Vs) (w : World) (h : StAt w base p bm sv V) (hl : V.length ≤ 2513169434910) :
    Calls Try.prog 34 #[.pointer (some ⟨p, 0, none⟩)] w (SeqVEnd w V) := by
  have c0 : w.cell? ⟨p, 0, none⟩ = some sv := h.blk.cell 0 rfl
  have HC := Lib.hid (cloneVer_ok base sv _ _ w h.own (by omega) (cellsL_len (enc := encS) (size := 7) (fun _ => rfl) V) (cellsL_one encS_one V))
  clear h
  go_enter Try.func34, Try.ntmps34
  go_wp2_with fail
  with_reducible refine HC.out.mono ?_
  rintro e w1 ⟨cv, rfl, hown, hb1⟩
  obtain ⟨a, cap, rfl, _, _, _, hax, hR⟩ := owned_recs (enc := encS) (size := 7) (fun _ => rfl) hown rfl
  have HR := Lib.hid hR
  clear hR hown
  go_wp2_with fail
  with_reducible refine (valuesV_ok _ _ _ _).mono ?_
  rintro e w2 ⟨rfl, hw2⟩
  have HW := Lib.hid hw2
  clear hw2
  go_wp2_with fail
  go_ret
  obtain rfl := HW.out
  have bb : RowKit.Below w1.heap.size w1 (w1.alloc (.cells #[.slice a V.length cap] 35)) := (RowKit.Below.refl _ _).alloc (Nat.le_refl _) _
  exact ⟨w1.heap.size, rfl, ⟨a, cap, Blk.new _ _ _, HR.out.after bb, by simp, fun x e => by have := hax x e; simp; omega⟩, hb1.trans (bb.mono hb1.size), hb1.size⟩
theorem ball_nil (w : World) : Calls Try.prog 34 #[.pointer none] w (SeqVEnd w []) := by
  go_enter Try.func34, Try.ntmps34
  go_wp2_with fail
  with_reducible refine (valuesV_ok _ _ _ _).mono ?_
  rintro e w2 ⟨rfl, hw2⟩
  have HW := Lib.hid hw2
  clear hw2
  go_wp2_with fail
  go_ret
  obtain rfl := HW.out
  exact ⟨w.heap.size, rfl, ⟨none, 0, Blk.new _ _ _, RowsAt.nil _ _ _ _, by simp, by simp⟩, (RowKit.Below.refl _ _).alloc (Nat.le_refl _) _, Nat.le_refl _⟩

end Go.Proofs.Ytkloijkfaooodaa
