/- The law's list. -/
import Derived.Test.YtkloijkfaooodaaBitJ
namespace Go.Proofs.Ytkloijkfaooodaa
open Go.RowKit Go.Sort Go.Shelf
set_option linter.unusedVariables false
set_option linter.unusedSimpArgs false
attribute [local go_sem] Oper.semAt_some

theorem eqlfV (fn : Fn) (a b : Array Value) (w : World) : (binOp .eql 39 (.func fn a b) .nilFunc).run Try.prog w = .ok (.bool false) w := by kernel_rfl
theorem eqlfL (fn : Fn) (a b : Array Value) (w : World) : (binOp .eql 38 (.func fn a b) .nilFunc).run Try.prog w = .ok (.bool false) w := by kernel_rfl
def ListVEnd (w : World) (A : List Vs) (e : Ending) (w' : World) : Prop :=
  ∃ a cap, e = .returned (.tuple #[.slice a A.length cap, .bool true]) ∧ RecsAt w' a 7 encS A ∧ Below w.heap.size w w'
set_option maxRecDepth 100000 in
set_option maxHeartbeats 4000000 in
theorem list_ok (Bs : Nat) (A : List Vs) (w : World) (h : SeqAt w w.heap.size Bs 7 35 encS A) (hl : A.length ≤ 200) :
    Calls Try.prog 13 #[.func (.func 56) #[] #[.pointer (some ⟨Bs, 0, none⟩)]] w (ListVEnd w A) := by
  obtain ⟨i0, hi, hi0, hi1, hi2⟩ := info_parts infoVer
  refine (callsIn_wide (n := 5)).1 ?_
  refine callsIn_of_wp_marks Try.func13 rfl trivial ?_ rfl
  simp only [Try.ntmps13, List.size_toArray, List.length_cons, List.length_nil, Nat.reduceAdd, Nat.reduceSub, Array.replicate_succ, Array.replicate_zero, List.push_toArray, List.append_toArray, List.nil_append, List.cons_append]
  refine wpIn_wide.2 ?_
  have heq := eqlfL (.func 56) #[] #[.pointer (some ⟨Bs, 0, none⟩)]
  have HS := Lib.hid h
  clear h
  go_wp2_with fail
  obtain ⟨w0, hw0⟩ : ∃ w0, ((w.alloc (.cells #[.slice none 0 0] 35)).alloc (.cells #[.bool false] 4)).alloc (.cells #[.slice none 0 0] 35) = w0 := ⟨_, rfl⟩
  rw [hw0]
  have hb0 : Below w.heap.size w w0 := by rw [← hw0]; exact (((Below.refl _ _).alloc (Nat.le_refl _) _).alloc (by simp) _).alloc (by simp; omega) _
  have z0 : w0.heap.size = w.heap.size + 3 := by rw [← hw0]; simp
  have k2 : Blk w0 w.heap.size #[.slice none 0 0] 35 := by rw [← hw0]; exact ((Blk.new _ _ _).alloc _).alloc _
  have k3 : Blk w0 (w.heap.size + 1) #[.bool false] 4 := by
    rw [← hw0]
    have := Blk.new (w.alloc (.cells #[.slice none 0 0] 35)) #[.bool false] 4
    rw [World.size_alloc] at this
    exact this.alloc _
  have k4 : Boxed w0 (w.heap.size + 1 + 1) 35 (.slice none 0 0) := by
    rw [← hw0]
    have := Blk.new ((w.alloc (.cells #[.slice none 0 0] 35)).alloc (.cells #[.bool false] 4)) #[.slice none 0 0] 35
    rw [World.size_alloc, World.size_alloc] at this
    exact this
  have HS0 := Lib.hid (HS.out.below hb0)
  have HB0 := Lib.hid hb0
  clear hw0 hb0 HS heq
  refine wpIn_wide (n := 5) |>.1 ?_
  refine wpIn_range_box rfl (by omega) (gf := 56) (lb := #[.pointer (some ⟨Bs, 0, none⟩)]) rfl trivial (enters_of Try.func56 (by kernel_rfl) rfl)
    (valV_stops _ (by omega) w.heap.size Bs A (by omega) w0 HS0.out (by omega)) belowK_t (belowK_b (by omega)) (Below.refl _ _) (fun _ => rfl)
    (fun (pre : List Vs) W => (((∃ v, Boxed W (w.heap.size + 1 + 1) 35 v ∧ W.ownsRow w.heap.size 26 7 v pre.length (cellsL encS pre) ∧ True) ∧ Blk W w.heap.size #[.slice none 0 0] 35) ∧ Blk W (w.heap.size + 1) #[.bool false] 4) ∧ (Below w.heap.size w0 W ∧ w0.heap.size ≤ W.heap.size))
    (fun _ _ _ => False)
    (OwnFrom.and (OwnFrom.and (OwnFrom.and (Own.from (holdsRow_own w.heap.size (w.heap.size + 1 + 1) 35 26 7 (fun (pre : List Vs) => pre.length) (fun (pre : List Vs) => cellsL encS pre) (fun pre v => True)) _) (Own.from (blk_own _ (fun _ => #[.slice none 0 0]) _) _)) (Own.from (blk_own _ (fun _ => #[.bool false]) _) _)) (OwnFrom.and (ownFrom_below (by omega) (by omega)) (fun s X Y row hs hg hr => Nat.le_trans hs hg.size)))
    (fun _ _ _ _ _ hs _ _ => hs)
    ⟨⟨⟨⟨_, k4, World.ownsRow_nil _ _ _ _, trivial⟩, k2⟩, k3⟩, Below.refl _ _, Nat.le_refl _⟩
    26 encS 5 w0.heap.size (fun pre W h => h.2.2) (fun pre W o h => (Below.refl _ _).alloc (by have := h.2.2; omega) _)
    ?assign ?body ?done ?stop
  case assign =>
    intro l pre x W K hI hK
    have hK' := Lib.hid hK
    clear hK hI
    obtain ⟨xs, xc, xk, xd, xn, xm, xp⟩ := x
    dsimp only [encVV, encS] at hK' ⊢
    gi_wp2_with fail
    simpa [boxAct, encS] using hK'.out
  case body =>
    rintro l pre x Bx W hl' ⟨r, hr⟩ ⟨⟨⟨⟨v, hv, hrow, _⟩, hk2⟩, hk3⟩, hB, hz⟩ hBx hX hlt
    have hc := hv.cell
    have hf := hv.frozen
    have hpl : pre.length < 200 := by omega
    have d200 : decide ((200 : Int) < (pre.length : Int) + 1) = false := decide_eq_false (by omega)
    have hne2 : v.ownBlock ≠ some w.heap.size := hk2.own_ne hrow (by decide)
    have hne3 : v.ownBlock ≠ some (w.heap.size + 1) := hk3.own_ne hrow (by decide)
    have HK2 := Lib.hid hk2
    have HK3 := Lib.hid hk3
    have HBW := Lib.hid hB
    clear hk2 hk3 hB
    obtain ⟨xs, xc, xk, xd, xn, xm, xp⟩ := x
    dsimp only [encS] at hX
    have x0 : W.cell? ⟨Bx, 0, none⟩ = some (.int .i64 xs) := hX.cell 0 rfl
    have x1 : W.cell? ⟨Bx, 1, none⟩ = some (.bool xc) := hX.cell 1 rfl
    have x2 : W.cell? ⟨Bx, 2, none⟩ = some (.int .i64 xk) := hX.cell 2 rfl
    have x3 : W.cell? ⟨Bx, 3, none⟩ = some (.int .i64 xd) := hX.cell 3 rfl
    have x4 : W.cell? ⟨Bx, 4, none⟩ = some (.int .i64 xn) := hX.cell 4 rfl
    have x5 : W.cell? ⟨Bx, 5, none⟩ = some (.int .i64 xm) := hX.cell 5 rfl
    have x6 : W.cell? ⟨Bx, 6, none⟩ = some (.int .i64 xp) := hX.cell 6 rfl
    clear hX
    simp only [boxAct]
    gi_wp2_with (gi_at_builtin; refine wpListIn_append_own _ rfl _ _ 35 rfl w.heap.size 26 i0 _ 7 56 Try.underlying35 hi hi0 hi1 hi2 rfl (by decide) _ _ _ rfl (hrow.alloc _) ⟨W.heap.size, 0, none⟩ 1 1 [.int .i64 xs, .bool xc, .int .i64 xk, .int .i64 xd, .int .i64 xn, .int .i64 xm, .int .i64 xp] rfl rfl (World.news_of_block (cs := #[.int .i64 xs, .bool xc, .int .i64 xk, .int .i64 xd, .int .i64 xn, .int .i64 xm, .int .i64 xp]) (t := 26) (fr := (0, 0)) (heap_alloc_new W _)) (by simp [Value.oneCell']) (by unfold maxLen; omega) (by omega) (by simp; omega) ?_; intro v' w1' hown' hgrow _; obtain ⟨g', cap', rfl⟩ := ownsRow_succ hown'; obtain ⟨hv1, hv2, hr2, hko, hb2⟩ := hv.appended (by decide) hrow (by omega) (by omega) hown' hgrow; have hc1 := hv1.cell; have hf1 := hv1.frozen; have HA2 := Lib.hid ((HK2.out.alloc _).grown hgrow hne2); have HA3 := Lib.hid ((HK3.out.alloc _).grown hgrow hne3); have hzz := hgrow.size)
    refine ⟨hko.from _, hb2, ⟨⟨⟨⟨_, hv2, ?_, trivial⟩, HA2.out.far 0 _ (by omega)⟩, HA3.out.far 0 _ (by omega)⟩, HBW.out.trans hb2, ?_⟩⟩
    · rw [List.length_append, cellsL_snoc]
      exact hr2
    · simp [World.setCell] at hzz ⊢
      omega
  case done =>
    rintro D ys W hD rfl ⟨⟨⟨⟨v, hv, hrow, _⟩, hk2⟩, hk3⟩, hB, hz⟩ hK
    obtain ⟨a, cap, rfl, _⟩ := owned_recs (enc := encS) (size := 7) (fun _ => rfl) hrow rfl
    have hne2 : (Value.slice a ys.length cap).ownBlock ≠ some w.heap.size := hk2.own_ne hrow (by decide)
    have hne3 : (Value.slice a ys.length cap).ownBlock ≠ some (w.heap.size + 1) := hk3.own_ne hrow (by decide)
    have hc := hv.cell
    have c2 : W.cell? ⟨w.heap.size, 0, none⟩ = some (.slice none 0 0) := hk2.cell 0 rfl
    have c3 : W.cell? ⟨w.heap.size + 1, 0, none⟩ = some (.bool false) := hk3.cell 0 rfl
    have f2 := hk2.free 0
    have f3 := hk3.free 0
    have hK2 : ((W.setCell ⟨w.heap.size, 0, none⟩ (.slice a ys.length cap)).setCell ⟨w.heap.size + 1, 0, none⟩ (.bool true)).heap[D]? = some (.deferred (some [])) := (((KeepsOthers.setCell _ _ _).trans (KeepsOthers.setCell _ _ _)).same D _ hK rfl)
    have hb2 := below_setCells (below_setCells hB (Nat.le_refl _) 0 (.slice a ys.length cap)) (show w.heap.size ≤ w.heap.size + 1 by omega) 0 (.bool true)
    have KF2 := Lib.hid ((hk2.set 0 (.slice a ys.length cap)).far 0 (.bool true) (show w.heap.size ≠ w.heap.size + 1 by omega))
    have KF3 := Lib.hid ((hk3.far 0 (.slice a ys.length cap) (show w.heap.size + 1 ≠ w.heap.size by omega)).set 0 (.bool true))
    have hr2 := (hrow.kept (grown_setCell W w.heap.size 0 (.slice a ys.length cap)) (Or.inr hne2)).kept (grown_setCell _ (w.heap.size + 1) 0 (.bool true)) (Or.inr hne3)
    have HR := Lib.hid (ownsRow_putObj hr2 (.deferred none) hK2 rfl)
    have HK2 := Lib.hid hK2
    have HB2 := Lib.hid hb2
    clear hk2 hk3 hv hrow hB hK2 hb2 hr2 hne2 hne3
    go_wp2_with fail
    refine ⟨by simp, .inl ⟨_, _, rfl, run_takeDeferred HK2.out, ?_⟩⟩
    obtain ⟨a', cap', he, _, _, _, _, hr⟩ := owned_recs (enc := encS) (size := 7) (fun _ => rfl) HR.out rfl
    simp only [Value.slice.injEq, true_and] at he
    obtain ⟨rfl, rfl⟩ := he
    have r0 := cell_kept (KF2.out.cell 0 rfl) (grownBy_putObj' _ D (.deferred none)) (fun r e => by cases e; exact ⟨_, HK2.out, rfl⟩)
    have r1 := cell_kept (KF3.out.cell 0 rfl) (grownBy_putObj' _ D (.deferred none)) (fun r e => by cases e; exact ⟨_, HK2.out, rfl⟩)
    exact ⟨.tuple #[.slice a ys.length cap, .bool true], by simp [results, Try.results13, go_sem, r0, r1], a, cap, rfl, hr, (HB0.out.trans HB2.out).trans (belowK_b (w := w) (Nat.le_refl _) _ D _ _ (by omega) HK2.out rfl rfl)⟩
  case stop =>
    rintro D c pre W _ _ h _
    exact h.elim

end Go.Proofs.Ytkloijkfaooodaa
