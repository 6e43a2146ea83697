/- Package agenda: slices.Values' iterator of items, slices.SortFunc, Collect, SortedFunc; All. -/
import Derived.Test.YtgcncnmkfpfccaaAgN
import Derived.Test.YtgcncnmkfpfccaaAgSh
import Derived.Test.YtgcncnmkfpfccaaRangeB
import Derived.Shelf.Abstract
import Derived.Shelf.RegionOpen
import Derived.OwnWalkIn
import Derived.TacticsInMore
import Derived.LoopNIn
import Derived.LoopIn
import Derived.RangeFuncNested
import Derived.RangeFuncBound
import Derived.RangeFuncCalls
import Derived.RangeFuncLeaves
import Derived.RangeFuncBox
namespace Go.Proofs.Ytgcncnmkfpfccaa
open Go.RowKit Go.Sort Go.Shelf
set_option linter.unusedVariables false
set_option linter.unusedSimpArgs false
attribute [local go_sem] Oper.semAt_some

abbrev encVI (x : It) : Array Value := #[.agg (encI x).toArray]
set_option maxRecDepth 100000 in
set_option maxHeartbeats 2000000 in
theorem valI_stops (m : Nat) (hn : 1 ≤ m) (n₀ Bs : Nat) (A : List It) (hl : A.length ≤ 100000) (w0 : World) (h0 : SeqAt w0 n₀ Bs 3 47 encI A) (hn0 : n₀ ≤ w0.heap.size) :
    SeqStopsK Fence.wide m Try.prog 40 #[.pointer (some ⟨Bs, 0, none⟩)] encVI (RowKit.Below n₀) (fun xs => xs = A) (fun pre => pre <+: A) A.length w0 := fun l J Jx W hW hJ hJx hY hJ0 => by
  have HS := Lib.hid (h0.below (hW.mono hn0))
  obtain ⟨a, cap, hB, _⟩ := HS.out
  have q1 : W.cell? ⟨Bs, 0, none⟩ = some (.slice a A.length cap) := hB.cell 0 rfl
  have HR : Hid (RecsAt W a 3 encI A) := by
    obtain ⟨a', cap', hB', hR', _⟩ := HS.out
    have := hB.symm.trans hB'
    simp only [Option.some.injEq, Obj.cells.injEq, Array.mk.injEq, List.cons.injEq, Value.slice.injEq, and_true, true_and] at this
    obtain ⟨rfl, rfl⟩ := this
    exact hR'
  have HA : Hid (∀ x, a = some x → x.block < n₀) := by
    obtain ⟨a', cap', hB', _, _, hA'⟩ := HS.out
    have := hB.symm.trans hB'
    simp only [Option.some.injEq, Obj.cells.injEq, Array.mk.injEq, List.cons.injEq, Value.slice.injEq, and_true, true_and] at this
    obtain ⟨rfl, rfl⟩ := this
    exact hA'
  have zW := hW.size
  clear hB h0
  refine callsIn_of_wp Try.func40 rfl trivial ?_ rfl
  simp only [Try.ntmps40, List.size_toArray, List.length_cons, List.length_nil, Nat.reduceAdd, Nat.reduceSub, Array.replicate_succ, Array.replicate_zero, List.push_toArray, List.append_toArray, List.nil_append, List.cons_append]
  gi_wp2_with fail
  gi_loopw [7] (fun c wr => ∃ j : Nat, j ≤ A.length ∧ c = .int .i64 (j : Int) ∧ J (A.take j) wr ∧ RowKit.Below n₀ W wr) (fun c _ => A.length - (intOf c).toNat)
  case atStart => exact ⟨0, by omega, rfl, hJ0, RowKit.Below.refl _ _⟩
  case round =>
    obtain ⟨j, hj, rfl, hJk, hbk⟩ := hrel
    have zk := hbk.size
    clear q1
    by_cases hlt : j < A.length
    · have hx := List.getElem?_eq_getElem hlt
      have HT : Hid (A.take (j + 1) = A.take j ++ [A[j]]) := List.take_succ_eq_append_getElem hlt
      obtain ⟨z, hz⟩ : ∃ z, A[j] = z := ⟨_, rfl⟩
      rw [hz] at hx HT
      have hR := HR.out.below hbk HA.out
      obtain ⟨b, o, rfl, _⟩ := hR (by omega)
      have hbk' : RowKit.Below wr.heap.size wr (wr.alloc (.cells (encI z).toArray 31)) := (RowKit.Below.refl _ _).alloc (Nat.le_refl _) _
      have hJ2 : J (A.take j) (wr.alloc (.cells (encI z).toArray 31)) := hJ _ wr _ none hJk (below_grownN hbk') (by rintro r ⟨⟩)
      obtain ⟨fn, tmps, assign, body, hy, hR3⟩ := hY _ z _ hJ2 (by rw [List.length_take]; omega)
      obtain ⟨d, n, t⟩ := z
      dsimp only [encVI, encI] at hy hbk' hR3
      have c0 : wr.cell? ⟨b, o + j * 3, none⟩ = some (.int .i64 d) := RecsAt.cell hR rfl hlt hx (j := 0) rfl
      have c1 : wr.cell? ⟨b, o + j * 3 + 1, none⟩ = some (.int .i64 n) := RecsAt.cell hR rfl hlt hx (j := 1) rfl
      have c2 : wr.cell? ⟨b, o + j * 3 + 2, none⟩ = some (.int .i64 t) := RecsAt.cell hR rfl hlt hx (j := 2) rfl
      clear hx hz hR hJ2
      gi_wp2_with fail
      refine hR3.mono ?_
      rintro e w3 (⟨rfl, hJ3, hk3⟩ | ⟨rfl, hJx3⟩)
      · rw [← HT.out] at hJ3
        have hB3 := (hbk.trans (hbk'.mono (by omega))).trans hk3
        gi_wp2_with fail
        go_roundw
        case rel => exact ⟨j + 1, by omega, by go_num, hJ3, hB3⟩
        case measure => simp [intOf]; omega
      · rw [← HT.out] at hJx3
        gi_wp2_with fail
        refine bodyPost_ret (results_none rfl _ _ _) rfl ?_
        exact ⟨⟨_, rfl⟩, .inr ⟨_, List.take_prefix _ _, hJx3⟩⟩
    · obtain rfl : j = A.length := by omega
      rw [List.take_length] at hJk
      gi_wp2_with fail
      go_end0
      exact ⟨⟨_, rfl⟩, .inl ⟨_, rfl, hJk⟩⟩
theorem sortI_ok (g cap : Nat) (l : List It) (w : World) (hH : HoldsK encI 3 w g 0 l.toArray) (hg : g < w.heap.size) (hl : l.length ≤ 100000) :
    Calls Try.prog 42 #[.slice (some ⟨g, 0, none⟩) l.length cap, .func (.func 34) #[] #[]] w fun e w' =>
      e = .returned (.tuple #[]) ∧ ∃ l', l'.Perm l ∧ l'.Pairwise (fun a b => ¬ ltK b.ky a.ky) ∧ RecsAt w' (some ⟨g, 0, none⟩) 3 encI l' ∧ w.grownBy w' (some g) := by
  have eg : ∀ args w, (callFunc 34 args).run Try.prog w = .ok (.enter 34 args) w := enters_of Try.func34 (by kernel_rfl) rfl
  have hc : CmpLays Try.prog 34 #[] encI 3 (fun x y => cmpKD x.ky y.ky) g 0 l.toArray.size w := fun _ _ _ _ x y => compare_ok x y _
  have hcon := AnyQ.slices_SortFunc Try.sortI 3 Try.isAgg31 Try.sizeOf31 encI (fun _ => rfl) encI_one (fun x y => cmpKD x.ky y.ky) (swoK It.ky) 34 #[] g 0 cap l.toArray w eg hc hH hg (by simp; omega)
  have hcon' : Calls Try.prog 42 #[.slice (some ⟨g, 0, none⟩) l.toArray.size cap, .func (.func 34) #[] #[]] w _ := hcon
  rw [List.size_toArray] at hcon'
  refine hcon'.mono ?_
  rintro e w' ⟨rfl, d', n, os, hp, hs, rfl⟩
  rw [← List.size_toArray] at hp hs
  have hsz : d'.size = l.toArray.size := hp.1
  refine ⟨rfl, d'.toList, by simpa using perm_in hp, ?_, recs_holds (fun _ => rfl) (holdsK_sortWorldK_c _ _ _ _ _ _ _ _ _ hH hg hsz), grown_sortedK⟩
  rw [← hsz] at hs
  refine List.Pairwise.imp (fun {a b} h => ?_) (sorted_in hs)
  unfold ltOf at h
  rw [cmpKD_lt] at h
  exact of_decide_eq_false h
theorem sortanyI (base : Nat) (v : Value) (l : List It) (w : World) (ho : w.ownsRow base 31 3 v l.length (cellsL encI l)) (hl : l.length ≤ 100000) :
    Calls Try.prog 42 #[v, .func (.func 34) #[] #[]] w fun e w' =>
      e = .returned (.tuple #[]) ∧ ∃ a cap l', v = .slice a l.length cap ∧ l'.Perm l ∧ l'.Pairwise (fun a b => ¬ ltK b.ky a.ky) ∧ RecsAt w' a 3 encI l' ∧ RowKit.Below base w w' := by
  by_cases h0 : 0 < l.length
  · obtain ⟨g, cap, rfl, hb, hg, _, _, hH⟩ := holds_own (enc := encI) (size := 3) (fun _ => rfl) ho rfl h0
    refine (sortI_ok g cap l w hH hg hl).mono ?_
    rintro e w' ⟨rfl, l', h1, h2, h3, h4⟩
    exact ⟨rfl, _, cap, l', rfl, h1, h2, h3, (grown_below h4 hg).mono hb⟩
  · have hn : l.length = 0 := by omega
    obtain ⟨a, cap, rfl, _⟩ := owned_recs (enc := encI) (size := 3) (fun _ => rfl) ho rfl
    obtain rfl := List.length_eq_zero_iff.1 hn
    have hcon : Calls Try.prog 42 _ _ _ := AnyF.slices_SortFunc_none Try.sortI a cap (.func (.func 34) #[] #[]) w
    refine hcon.mono ?_
    rintro e w' ⟨rfl, rfl⟩
    exact ⟨rfl, a, cap, [], rfl, List.Perm.refl _, List.Pairwise.nil, RowsAt.nil _ _ _ _, RowKit.Below.refl _ _⟩

theorem valuesI_ok (a : Option Addr) (n cap : Nat) (w : World) : Calls Try.prog 32 #[.slice a n cap] w fun e w' => e = .returned (.func (.func 40) #[] #[.pointer (some ⟨w.heap.size, 0, none⟩)]) ∧ w' = w.alloc (.cells #[.slice a n cap] 47) := by
  go_enter Try.func32, Try.ntmps32
  go_wp2_with fail
  go_ret
  exact ⟨rfl, rfl⟩
/-- What a new row of items is. -/
def RowI (w : World) (A : List It) (e : Ending) (w' : World) : Prop := ∃ v, e = .returned v ∧ w'.ownsRow w.heap.size 31 3 v A.length (cellsL encI A) ∧ Below w.heap.size w w'
set_option maxRecDepth 100000 in
set_option maxHeartbeats 4000000 in
theorem appendseq_ok (Bs : Nat) (A : List It) (w : World) (h : SeqAt w w.heap.size Bs 3 47 encI A) (hl : A.length ≤ 100000) :
    Calls Try.prog 45 #[.slice none 0 0, .func (.func 40) #[] #[.pointer (some ⟨Bs, 0, none⟩)]] w (RowI w A) := by
  obtain ⟨i0, hi, hi0, hi1, hi2⟩ := info_parts infoIt
  refine (callsIn_wide (n := 5)).1 ?_
  refine callsIn_of_wp_marks Try.func45 rfl trivial ?_ rfl
  simp only [Try.ntmps45, List.size_toArray, List.length_cons, List.length_nil, Nat.reduceAdd, Nat.reduceSub, Array.replicate_succ, Array.replicate_zero, List.push_toArray, List.append_toArray, List.nil_append, List.cons_append]
  refine wpIn_wide.2 ?_
  have HS := Lib.hid h
  clear h
  go_wp2_with fail
  obtain ⟨w0, hw0⟩ : ∃ w0, w.alloc (.cells #[.slice none 0 0] 47) = w0 := ⟨_, rfl⟩
  rw [hw0]
  have hb0 : Below w.heap.size w w0 := by rw [← hw0]; exact (Below.refl _ _).alloc (Nat.le_refl _) _
  have z0 : w0.heap.size = w.heap.size + 1 := by rw [← hw0]; simp
  have k4 : Boxed w0 w.heap.size 47 (.slice none 0 0) := by rw [← hw0]; exact Boxed.new _ _ _
  have HS0 := Lib.hid (HS.out.below hb0)
  have HB0 := Lib.hid hb0
  clear hw0 hb0 HS
  refine wpIn_wide (n := 5) |>.1 ?_
  refine wpIn_range_box rfl (by omega) (gf := 40) (lb := #[.pointer (some ⟨Bs, 0, none⟩)]) rfl trivial (enters_of Try.func40 (by kernel_rfl) rfl)
    (valI_stops _ (by omega) w.heap.size Bs A (by omega) w0 HS0.out (by omega)) belowK_t (belowK_b (by omega)) (Below.refl _ _) (fun _ => rfl)
    (fun (pre : List It) W => (∃ v, Boxed W w.heap.size 47 v ∧ W.ownsRow w.heap.size 31 3 v pre.length (cellsL encI pre) ∧ True) ∧ (Below w.heap.size w0 W ∧ w0.heap.size ≤ W.heap.size))
    (fun _ _ _ => False)
    (OwnFrom.and (Own.from (holdsRow_own w.heap.size w.heap.size 47 31 3 (fun (pre : List It) => pre.length) (fun (pre : List It) => cellsL encI pre) (fun pre v => True)) _) (OwnFrom.and (ownFrom_below (by omega) (by omega)) (fun s X Y row hs hg hr => Nat.le_trans hs hg.size)))
    (fun _ _ _ _ _ hs _ _ => hs)
    ⟨⟨_, k4, World.ownsRow_nil _ _ _ _, trivial⟩, Below.refl _ _, Nat.le_refl _⟩
    31 encI 5 w0.heap.size (fun pre W h => h.2.2) (fun pre W o h => (Below.refl _ _).alloc (by have := h.2.2; omega) _)
    ?assign ?body ?done ?stop
  case assign =>
    intro l pre x W K hI hK
    have hK' := Lib.hid hK
    clear hK hI
    obtain ⟨xd, xn, xt⟩ := x
    dsimp only [encVI, encI] at hK' ⊢
    gi_wp2_with fail
    simpa [boxAct, encI] using hK'.out
  case body =>
    rintro l pre x Bx W hl' ⟨r, hr⟩ ⟨⟨v, hv, hrow, _⟩, hB, hz⟩ hBx hX hlt
    have hc := hv.cell
    have hf := hv.frozen
    have HBW := Lib.hid hB
    clear hB
    obtain ⟨xd, xn, xt⟩ := x
    dsimp only [encI] at hX
    have x0 : W.cell? ⟨Bx, 0, none⟩ = some (.int .i64 xd) := hX.cell 0 rfl
    have x1 : W.cell? ⟨Bx, 1, none⟩ = some (.int .i64 xn) := hX.cell 1 rfl
    have x2 : W.cell? ⟨Bx, 2, none⟩ = some (.int .i64 xt) := hX.cell 2 rfl
    clear hX
    simp only [boxAct]
    gi_wp2_with (gi_at_builtin; refine wpListIn_append_own _ rfl _ _ 47 rfl w.heap.size 31 i0 _ 3 24 Try.underlying47 hi hi0 hi1 hi2 rfl (by decide) _ _ _ rfl (hrow.alloc _) ⟨W.heap.size, 0, none⟩ 1 1 [.int .i64 xd, .int .i64 xn, .int .i64 xt] rfl rfl (World.news_of_block (cs := #[.int .i64 xd, .int .i64 xn, .int .i64 xt]) (t := 31) (fr := (0, 0)) (heap_alloc_new W _)) (by simp [Value.oneCell']) (by unfold maxLen; omega) (by omega) (by simp; omega) ?_; intro v' w1' hown' hgrow _; obtain ⟨g', cap', rfl⟩ := ownsRow_succ hown'; obtain ⟨hv1, hv2, hr2, hko, hb2⟩ := hv.appended (by decide) hrow (by omega) (by omega) hown' hgrow; have hc1 := hv1.cell; have hf1 := hv1.frozen; have hzz := hgrow.size)
    refine ⟨hko.from _, hb2, ⟨⟨_, hv2, ?_, trivial⟩, HBW.out.trans hb2, ?_⟩⟩
    · rw [List.length_append, cellsL_snoc]
      exact hr2
    · simp [World.setCell] at hzz ⊢
      omega
  case done =>
    rintro D ys W hD rfl ⟨⟨v, hv, hrow, _⟩, hB, hz⟩ hK
    have hc := hv.cell
    have HR := Lib.hid (ownsRow_putObj hrow (.deferred none) hK rfl)
    have HBd := Lib.hid hB
    clear hB
    go_wp2_with fail
    refine ⟨by simp, .inl ⟨_, _, rfl, run_takeDeferred hK, ?_⟩⟩
    refine ⟨_, results_tmp rfl _ _ _, _, rfl, ?_, (HB0.out.trans HBd.out).trans (belowK_b (w := w) (Nat.le_refl _) _ D _ _ (by omega) hK rfl rfl)⟩
    exact HR.out
  case stop =>
    rintro D c pre W _ _ h _
    exact h.elim
theorem collect_ok (Bs : Nat) (A : List It) (w : World) (h : SeqAt w w.heap.size Bs 3 47 encI A) (hl : A.length ≤ 100000) :
    Calls Try.prog 41 #[.func (.func 40) #[] #[.pointer (some ⟨Bs, 0, none⟩)]] w (RowI w A) := by
  have HC := Lib.hid (appendseq_ok Bs A w h hl)
  clear h
  go_enter Try.func41, Try.ntmps41
  go_wp2_with fail
  with_reducible refine HC.out.mono ?_
  rintro e w1 ⟨v, rfl, h1, h2⟩
  have H1 := Lib.hid h1
  have H2 := Lib.hid h2
  clear h1 h2
  go_wp2_with fail
  go_ret
  exact ⟨v, rfl, H1.out, H2.out⟩
/-- What a new row of items is, read. -/
def RecI (w : World) (A : List It) (e : Ending) (w' : World) : Prop := ∃ a cap, e = .returned (.slice a A.length cap) ∧ RecsAt w' a 3 encI A ∧ Below w.heap.size w w' ∧ ∀ x, a = some x → w.heap.size ≤ x.block ∧ x.block < w'.heap.size
theorem sorted_ok (Bs : Nat) (A S : List It) (w : World) (h : SeqAt w w.heap.size Bs 3 47 encI A) (hl : A.length ≤ 100000) (hp : A.Perm S) (hr : Rising It.ky S) :
    Calls Try.prog 33 #[.func (.func 40) #[] #[.pointer (some ⟨Bs, 0, none⟩)], .func (.func 34) #[] #[]] w (RecI w S) := by
  have HC := Lib.hid (collect_ok Bs A w h hl)
  have HP := Lib.hid hp
  have HR := Lib.hid hr
  clear h hp hr
  go_enter Try.func33, Try.ntmps33
  go_wp2_with fail
  with_reducible refine HC.out.mono ?_
  rintro e w1 ⟨v, rfl, h1, h2⟩
  have H1 := Lib.hid h1
  have H2 := Lib.hid h2
  obtain ⟨a0, cap0, rfl, _, _, _, hax, _⟩ := owned_recs (enc := encI) (size := 3) (fun _ => rfl) h1 rfl
  have HA := Lib.hid hax
  clear h1 h2 hax
  go_wp2_with fail
  with_reducible refine (sortanyI w.heap.size _ A w1 H1.out (by omega)).mono ?_
  rintro e w2 ⟨rfl, a, cap, l', hv, hp1, hs1, hR1, hb1⟩
  simp only [Value.slice.injEq, true_and] at hv
  obtain ⟨rfl, rfl⟩ := hv
  have hl' : l' = S := rising_of_sorted HR.out (hp1.trans HP.out) hs1
  subst hl'
  have HFin : Hid (RecI w l' (.returned (.slice a0 A.length cap0)) w2) := ⟨a0, cap0, by rw [HP.out.length_eq], hR1, H2.out.trans hb1, fun x e => by have := HA.out x e; have := hb1.size; omega⟩
  clear hp1 hs1 hR1 hb1
  go_wp2_with fail
  go_ret
  exact HFin.out
def SeqIEnd (w : World) (A : List It) (e : Ending) (w' : World) : Prop :=
  ∃ Bs, e = .returned (.func (.func 40) #[] #[.pointer (some ⟨Bs, 0, none⟩)]) ∧ SeqAt w' w'.heap.size Bs 3 47 encI A ∧ Below w.heap.size w w' ∧ w.heap.size ≤ Bs ∧ ∀ x n c, w'.cell? ⟨Bs, 0, none⟩ = some (.slice (some x) n c) → w.heap.size ≤ x.block

set_option maxHeartbeats 2000000 in
theorem all_ok (base B bm : Nat) (sv : Value) (S : List It) (N : Int) (w : World) (h : AgAt w base B bm sv S N) (hl : S.length ≤ 90000) :
    Calls Try.prog 22 #[.pointer (some ⟨B, 0, none⟩)] w (SeqIEnd w S) := by
  have H := Lib.hid h
  obtain ⟨L, hP, _, hp⟩ := h.ex
  obtain ⟨a, cap, rfl, _, _, _, hax, hR⟩ := owned_recs (enc := encI) (size := 3) (fun _ => rfl) hP.own rfl
  have c0 : w.cell? ⟨B, 0, none⟩ = some (.slice a L.length cap) := hP.blk.cell 0 rfl
  have HLp := Lib.hid hp
  have HR := Lib.hid hR
  have HA := Lib.hid hax
  have hll : L.length ≤ 90000 := by rw [hp.length_eq]; exact hl
  clear h hP hp hR hax
  go_enter Try.func22, Try.ntmps22
  go_wp2_with fail
  with_reducible refine (valuesI_ok _ _ _ _).mono ?_
  rintro e w1 ⟨rfl, hw1⟩
  have hb1 : Below w.heap.size w w1 := by rw [hw1]; exact (Below.refl _ _).alloc (Nat.le_refl _) _
  have HS1 : Hid (SeqAt w1 w1.heap.size w.heap.size 3 47 encI L) := by
    refine ⟨a, cap, by rw [hw1]; exact Blk.new _ _ _, HR.out.after hb1, by rw [hw1]; simp, fun x e => ?_⟩
    have := (HA.out x e).2
    have := hb1.size
    omega
  have HB1 := Lib.hid hb1
  clear hw1 hb1
  go_wp2_with fail
  with_reducible refine (sorted_ok w.heap.size L S w1 HS1.out (by omega) HLp.out H.out.ra).mono ?_
  rintro e w2 ⟨a2, cap2, rfl, hR2, hb2, hx2⟩
  have HR2 := Lib.hid hR2
  have HB2 := Lib.hid (HB1.out.trans (hb2.mono HB1.out.size))
  have HX2 := Lib.hid hx2
  clear hR2 hb2 hx2
  go_wp2_with fail
  with_reducible refine (valuesI_ok _ _ _ _).mono ?_
  rintro e w3 ⟨rfl, hw3⟩
  have hb3 : Below w2.heap.size w2 w3 := by rw [hw3]; exact (Below.refl _ _).alloc (Nat.le_refl _) _
  have HFin : Hid (SeqIEnd w S (.returned (.func (.func 40) #[] #[.pointer (some ⟨w2.heap.size, 0, none⟩)])) w3) := by
    refine ⟨w2.heap.size, rfl, ⟨a2, cap2, by rw [hw3]; exact Blk.new _ _ _, HR2.out.after hb3, by rw [hw3]; simp, fun x e => ?_⟩, HB2.out.trans (hb3.mono HB2.out.size), HB2.out.size, fun x n c hc => ?_⟩
    · have := (HX2.out x e).2
      have := hb3.size
      omega
    · have q : w3.cell? ⟨w2.heap.size, 0, none⟩ = some (.slice a2 S.length cap2) := by rw [hw3]; exact (Blk.new _ _ _).cell 0 rfl
      have e := q.symm.trans hc
      simp only [Option.some.injEq, Value.slice.injEq] at e
      have := (HX2.out x e.1).1
      have := HB1.out.size
      omega
  clear hw3 hb3
  go_wp2_with fail
  go_ret
  exact HFin.out
theorem all_nil (w : World) : Calls Try.prog 22 #[.pointer none] w (SeqIEnd w []) := by
  go_enter Try.func22, Try.ntmps22
  go_wp2_with fail
  with_reducible refine (valuesI_ok _ _ _ _).mono ?_
  rintro e w3 ⟨rfl, hw3⟩
  have HFin : Hid (SeqIEnd w [] (.returned (.func (.func 40) #[] #[.pointer (some ⟨w.heap.size, 0, none⟩)])) w3) := by
    refine ⟨w.heap.size, rfl, ⟨none, 0, by rw [hw3]; exact Blk.new _ _ _, RowsAt.nil _ _ _ _, by rw [hw3]; simp, fun x e => by cases e⟩, by rw [hw3]; exact (Below.refl _ _).alloc (Nat.le_refl _) _, Nat.le_refl _, fun x n c hc => ?_⟩
    have q : w3.cell? ⟨w.heap.size, 0, none⟩ = some (.slice none 0 0) := by rw [hw3]; exact (Blk.new _ _ _).cell 0 rfl
    have e := q.symm.trans hc
    simp at e
  clear hw3
  go_wp2_with fail
  go_ret
  exact HFin.out

end Go.Proofs.Ytgcncnmkfpfccaa
