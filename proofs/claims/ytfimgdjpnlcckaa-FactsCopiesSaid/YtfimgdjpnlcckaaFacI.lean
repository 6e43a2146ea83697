/- Package facts: Fixings, Choices; the law's fixings, choices. -/
import Derived.Test.YtfimgdjpnlcckaaFacH
namespace Go.Proofs.Ytfimgdjpnlcckaa
open Go.RowKit Go.Sort Go.Shelf
set_option linter.unusedVariables false
set_option linter.unusedSimpArgs false
attribute [local go_sem] Oper.semAt_some

def SeqXEnd (w : World) (A : List Fx) (e : Ending) (w' : World) : Prop :=
  ∃ Bs, e = .returned (.func (.func 41) #[] #[.pointer (some ⟨Bs, 0, none⟩)]) ∧ SeqAt w' w'.heap.size Bs 4 36 encX A ∧ RowKit.Below w.heap.size w w' ∧ w.heap.size ≤ Bs
theorem valuesX_ok (a : Option Addr) (n cap : Nat) (w : World) : Calls Try.prog 32 #[.slice a n cap] w fun e w' => e = .returned (.func (.func 41) #[] #[.pointer (some ⟨w.heap.size, 0, none⟩)]) ∧ w' = w.alloc (.cells #[.slice a n cap] 36) := by
  go_enter Try.func32, Try.ntmps32
  go_wp2_with fail
  go_ret
  exact ⟨rfl, rfl⟩

set_option maxHeartbeats 1000000 in
theorem seqX_ok (p ba bc : Nat) (A : List Fx) (C : List Ch) (w : World) (h : FactsAt w p ba bc A C) (hl : A.length ≤ 1000) :
    Calls Try.prog 24 #[.pointer (some ⟨p, 0, none⟩)] w (SeqXEnd w A) := by
  have c0 : w.cell? ⟨p, 0, none⟩ = some (.map (some ba)) := h.blk.cell 0 rfl
  have c1 : w.cell? ⟨p, 1, none⟩ = some (.map (some bc)) := h.blk.cell 1 rfl
  have HC := Lib.hid (allX_ok _ A w h.ma h.ra hl)
  clear h
  go_enter Try.func24, Try.ntmps24
  go_wp2_with fail
  with_reducible refine HC.out.mono ?_
  rintro e w1 ⟨a, cap, rfl, hR, hb1, hax⟩
  have HR := Lib.hid hR
  clear hR
  go_wp2_with fail
  with_reducible refine (valuesX_ok _ _ _ _).mono ?_
  rintro e w2 ⟨rfl, hw2⟩
  have HW := Lib.hid hw2
  clear hw2
  go_wp2_with fail
  go_ret
  obtain rfl := HW.out
  have bb : RowKit.Below w1.heap.size w1 (w1.alloc (.cells #[.slice a A.length cap] 36)) := (RowKit.Below.refl _ _).alloc (Nat.le_refl _) _
  exact ⟨w1.heap.size, rfl, ⟨a, cap, Blk.new _ _ _, HR.out.after bb, by simp, fun x e => by have := hax x e; simp; omega⟩, hb1.trans (bb.mono hb1.size), hb1.size⟩

theorem seqX_nil (w : World) : Calls Try.prog 24 #[.pointer none] w (SeqXEnd w []) := by
  go_enter Try.func24, Try.ntmps24
  go_wp2_with fail
  with_reducible refine (valuesX_ok _ _ _ _).mono ?_
  rintro e w2 ⟨rfl, hw2⟩
  have HW := Lib.hid hw2
  clear hw2
  go_wp2_with fail
  go_ret
  obtain rfl := HW.out
  exact ⟨w.heap.size, rfl, ⟨none, 0, Blk.new _ _ _, RowsAt.nil _ _ _ _, by simp, by simp⟩, (RowKit.Below.refl _ _).alloc (Nat.le_refl _) _, Nat.le_refl _⟩

theorem eqlfX (fn : Fn) (a b : Array Value) (w : World) : (binOp .eql 64 (.func fn a b) .nilFunc).run Try.prog w = .ok (.bool false) w := by kernel_rfl

def ListXEnd (w : World) (A : List Fx) (e : Ending) (w' : World) : Prop :=
  ∃ a cap, e = .returned (.slice a A.length cap) ∧ RecsAt w' a 4 encX A ∧ RowKit.Below w.heap.size w w'
set_option maxRecDepth 100000 in
set_option maxHeartbeats 4000000 in
theorem listX_any (pv : Value) (A : List Fx) (w : World) (h : Calls Try.prog 24 #[pv] w (SeqXEnd w A)) (hl : A.length ≤ 500) :
    Calls Try.prog 14 #[pv] w (ListXEnd w A) := by
  obtain ⟨i0, hi, hi0, hi1, hi2⟩ := info_parts infoX
  have HC := Lib.hid h
  clear h
  refine (callsIn_wide (n := 5)).1 ?_
  refine callsIn_of_wp_marks Try.func14 rfl trivial ?_ rfl
  simp only [Try.ntmps14, List.size_toArray, List.length_cons, List.length_nil, Nat.reduceAdd, Nat.reduceSub, Array.replicate_succ, Array.replicate_zero, List.push_toArray, List.append_toArray, List.nil_append, List.cons_append]
  refine wpIn_wide.2 ?_
  go_wp2_with fail
  with_reducible refine HC.out.mono ?_
  rintro e w1 ⟨Bs, rfl, hS, hb1, hBs⟩
  have heq := eqlfX (.func 41) #[] #[.pointer (some ⟨Bs, 0, none⟩)]
  have HS := Lib.hid hS
  clear hS
  go_wp2_with fail
  obtain ⟨wo, hwo⟩ : ∃ wo, w1.alloc (.cells #[.slice none 0 0] 36) = wo := ⟨_, rfl⟩
  rw [hwo]
  have zo : wo.heap.size = w1.heap.size + 1 := by rw [← hwo]; simp
  have bo : RowKit.Below w1.heap.size w1 wo := by rw [← hwo]; exact (RowKit.Below.refl _ _).alloc (Nat.le_refl _) _
  have bO : Boxed wo w1.heap.size 36 (.slice none 0 0) := by rw [← hwo]; exact Boxed.new _ _ _
  have HSo := Lib.hid (HS.out.below bo)
  have HBo := Lib.hid (hb1.trans (bo.mono hb1.size))
  have zw := hb1.size
  clear hwo hb1 bo HS heq
  refine wpIn_wide (n := 5) |>.1 ?_
  refine wpIn_rangeFunc_ownH rfl (by omega) (gf := 41) (lb := #[.pointer (some ⟨Bs, 0, none⟩)]) rfl trivial (enters_of Try.func41 (by kernel_rfl) rfl)
    (valX_stops _ (by omega) w1.heap.size Bs A (by omega) wo HSo.out (by omega)) belowK_t (belowK_b (by omega)) (RowKit.Below.refl _ _) (fun _ => rfl)
    (fun (pre : List Fx) W => (∃ v, Boxed W w1.heap.size 36 v ∧ W.ownsRow w1.heap.size 41 4 v pre.length (cellsL encX pre) ∧ True) ∧ RowKit.Below w1.heap.size wo W)
    (fun _ _ _ => False)
    (OwnFrom.and (Own.from (holdsRow_own w1.heap.size w1.heap.size 36 41 4 (fun (pre : List Fx) => pre.length) (fun (pre : List Fx) => cellsL encX pre) (fun pre v => True)) _) (ownFrom_below (by omega) (by omega)))
    (fun _ _ _ _ _ hs _ _ => hs)
    ⟨⟨_, bO, World.ownsRow_nil _ _ _ _, trivial⟩, RowKit.Below.refl _ _⟩
    (fun x a' W => ∃ Bx, w1.heap.size < Bx ∧ Blk W Bx (encX x).toArray 41 ∧ a' = { tmps := #[pv, undef, .slice none 0 0, .func (.func 41) #[] #[.pointer (some ⟨Bs, 0, none⟩)], .pointer (some ⟨w1.heap.size, 0, none⟩), .pointer (some ⟨Bx, 0, none⟩), pv, .func (.func 41) #[] #[.pointer (some ⟨Bs, 0, none⟩)], .func (.func 41) #[] #[.pointer (some ⟨Bs, 0, none⟩)], .bool false, .func (.func 41) #[] #[.pointer (some ⟨Bs, 0, none⟩)], .agg (encX x).toArray, undef, undef, undef, undef, undef, undef, undef, undef], defers := [] })
    (fun x a' _ X Y row hs hg hr => by
      obtain ⟨Bx, h1, h2, h3⟩ := hs
      refine ⟨Bx, h1, h2.grown hg (fun e => ?_), h3⟩
      obtain ⟨o, ho, hc⟩ := (hr Bx e).2
      rw [show X.heap[Bx]? = _ from h2] at ho
      cases ho
      cases hc)
    ?assign ?body ?done ?stop
  case assign =>
    rintro l pre x W K ⟨⟨v, hv, hrow, _⟩, hB⟩ hK
    have zW := hB.size
    have hK' := Lib.hid (hK { tmps := #[pv, undef, .slice none 0 0, .func (.func 41) #[] #[.pointer (some ⟨Bs, 0, none⟩)], .pointer (some ⟨w1.heap.size, 0, none⟩), .pointer (some ⟨W.heap.size, 0, none⟩), pv, .func (.func 41) #[] #[.pointer (some ⟨Bs, 0, none⟩)], .func (.func 41) #[] #[.pointer (some ⟨Bs, 0, none⟩)], .bool false, .func (.func 41) #[] #[.pointer (some ⟨Bs, 0, none⟩)], .agg (encX x).toArray, undef, undef, undef, undef, undef, undef, undef, undef], defers := [] } _ ((KeepsOthers.alloc _ _).from _) ((RowKit.Below.refl _ W).alloc (by omega) (.cells (encX x).toArray 41)) ⟨⟨v, hv.alloc _, hrow.alloc _, trivial⟩, hB.alloc (by omega) _⟩ ⟨W.heap.size, by omega, Blk.new _ _ _, rfl⟩)
    clear hK hv hrow hB
    obtain ⟨k, d, n, m⟩ := x
    dsimp only [encVX, encX] at hK' ⊢
    gi_wp2_with fail
    exact hK'.out
  case body =>
    rintro l pre x a' W hl ⟨r, hr⟩ ⟨⟨v, hv, hrow, _⟩, hB⟩ ⟨Bx, hBx, hX, rfl⟩ hlt
    have zW := hB.size
    have hc := hv.cell
    have hf := hv.frozen
    have hpl : pre.length < 500 := by omega
    obtain ⟨k, d, n, m⟩ := x
    dsimp only [encX] at hX ⊢
    have x0 : W.cell? ⟨Bx, 0, none⟩ = some (.int .i64 k) := hX.cell 0 rfl
    have x1 : W.cell? ⟨Bx, 1, none⟩ = some (.int .i64 d) := hX.cell 1 rfl
    have x2 : W.cell? ⟨Bx, 2, none⟩ = some (.int .i64 n) := hX.cell 2 rfl
    have x3 : W.cell? ⟨Bx, 3, none⟩ = some (.int .i64 m) := hX.cell 3 rfl
    gi_wp2_with (gi_at_builtin; refine wpListIn_append_own _ rfl _ _ 36 rfl w1.heap.size 41 i0 _ 4 32 Try.underlying36 hi hi0 hi1 hi2 rfl (by decide) _ _ _ rfl (hrow.alloc _) ⟨W.heap.size, 0, none⟩ 1 1 [.int .i64 k, .int .i64 d, .int .i64 n, .int .i64 m] rfl rfl (World.news_of_block (cs := #[.int .i64 k, .int .i64 d, .int .i64 n, .int .i64 m]) (t := 41) (fr := (0, 0)) (heap_alloc_new W _)) (by simp [Value.oneCell']) (by unfold maxLen; omega) (by omega) (by simp; omega) ?_; intro v' w1' hown' hgrow _; obtain ⟨g', cap', rfl⟩ := ownsRow_succ hown'; obtain ⟨hv1, hv2, hr2, hk2, hb2⟩ := hv.appended (by decide) hrow (by omega) (Nat.le_refl _) hown' hgrow; have hc1 := hv1.cell; have hf1 := hv1.frozen)
    refine ⟨hk2.from _, hb2, ⟨⟨_, hv2, ?_, trivial⟩, hB.trans hb2⟩⟩
    rw [List.length_append, cellsL_snoc]
    exact hr2
  case done =>
    rintro D ys W hD rfl ⟨⟨v, hv, hrow, _⟩, hB⟩ hK
    have hc := hv.cell
    go_wp2_with fail
    refine ⟨by simp, .inl ⟨_, _, rfl, run_takeDeferred hK, ?_⟩⟩
    obtain ⟨a, cap, rfl, _, _, _, hx, hr⟩ := owned_recs (enc := encX) (size := 4) (fun _ => rfl) (ownsRow_putObj hrow (.deferred none) hK rfl) rfl
    exact ⟨_, results_tmp rfl _ _ _, a, cap, rfl, hr, (HBo.out.trans (hB.mono zw)).trans (belowK_b (w := w) (Nat.le_refl _) W D _ _ (by omega) hK rfl rfl)⟩
  case stop =>
    rintro D c pre W _ _ h _
    exact h.elim
def SeqHEnd (w : World) (A : List Ch) (e : Ending) (w' : World) : Prop :=
  ∃ Bs, e = .returned (.func (.func 46) #[] #[.pointer (some ⟨Bs, 0, none⟩)]) ∧ SeqAt w' w'.heap.size Bs 3 38 encH A ∧ RowKit.Below w.heap.size w w' ∧ w.heap.size ≤ Bs
theorem valuesH_ok (a : Option Addr) (n cap : Nat) (w : World) : Calls Try.prog 34 #[.slice a n cap] w fun e w' => e = .returned (.func (.func 46) #[] #[.pointer (some ⟨w.heap.size, 0, none⟩)]) ∧ w' = w.alloc (.cells #[.slice a n cap] 38) := by
  go_enter Try.func34, Try.ntmps34
  go_wp2_with fail
  go_ret
  exact ⟨rfl, rfl⟩

set_option maxHeartbeats 1000000 in
theorem seqH_ok (p ba bc : Nat) (A : List Fx) (C : List Ch) (w : World) (h : FactsAt w p ba bc A C) (hl : C.length ≤ 1000) :
    Calls Try.prog 25 #[.pointer (some ⟨p, 0, none⟩)] w (SeqHEnd w C) := by
  have c0 : w.cell? ⟨p, 0, none⟩ = some (.map (some ba)) := h.blk.cell 0 rfl
  have c1 : w.cell? ⟨p, 1, none⟩ = some (.map (some bc)) := h.blk.cell 1 rfl
  have HC := Lib.hid (allH_ok _ C w h.mc h.rc hl)
  clear h
  go_enter Try.func25, Try.ntmps25
  go_wp2_with fail
  with_reducible refine HC.out.mono ?_
  rintro e w1 ⟨a, cap, rfl, hR, hb1, hax⟩
  have HR := Lib.hid hR
  clear hR
  go_wp2_with fail
  with_reducible refine (valuesH_ok _ _ _ _).mono ?_
  rintro e w2 ⟨rfl, hw2⟩
  have HW := Lib.hid hw2
  clear hw2
  go_wp2_with fail
  go_ret
  obtain rfl := HW.out
  have bb : RowKit.Below w1.heap.size w1 (w1.alloc (.cells #[.slice a C.length cap] 38)) := (RowKit.Below.refl _ _).alloc (Nat.le_refl _) _
  exact ⟨w1.heap.size, rfl, ⟨a, cap, Blk.new _ _ _, HR.out.after bb, by simp, fun x e => by have := hax x e; simp; omega⟩, hb1.trans (bb.mono hb1.size), hb1.size⟩

theorem seqH_nil (w : World) : Calls Try.prog 25 #[.pointer none] w (SeqHEnd w []) := by
  go_enter Try.func25, Try.ntmps25
  go_wp2_with fail
  with_reducible refine (valuesH_ok _ _ _ _).mono ?_
  rintro e w2 ⟨rfl, hw2⟩
  have HW := Lib.hid hw2
  clear hw2
  go_wp2_with fail
  go_ret
  obtain rfl := HW.out
  exact ⟨w.heap.size, rfl, ⟨none, 0, Blk.new _ _ _, RowsAt.nil _ _ _ _, by simp, by simp⟩, (RowKit.Below.refl _ _).alloc (Nat.le_refl _) _, Nat.le_refl _⟩

theorem eqlfH (fn : Fn) (a b : Array Value) (w : World) : (binOp .eql 68 (.func fn a b) .nilFunc).run Try.prog w = .ok (.bool false) w := by kernel_rfl

def ListHEnd (w : World) (A : List Ch) (e : Ending) (w' : World) : Prop :=
  ∃ a cap, e = .returned (.slice a A.length cap) ∧ RecsAt w' a 3 encH A ∧ RowKit.Below w.heap.size w w'
set_option maxRecDepth 100000 in
set_option maxHeartbeats 4000000 in
theorem listH_any (pv : Value) (A : List Ch) (w : World) (h : Calls Try.prog 25 #[pv] w (SeqHEnd w A)) (hl : A.length ≤ 500) :
    Calls Try.prog 15 #[pv] w (ListHEnd w A) := by
  obtain ⟨i0, hi, hi0, hi1, hi2⟩ := info_parts infoH
  have HC := Lib.hid h
  clear h
  refine (callsIn_wide (n := 5)).1 ?_
  refine callsIn_of_wp_marks Try.func15 rfl trivial ?_ rfl
  simp only [Try.ntmps15, List.size_toArray, List.length_cons, List.length_nil, Nat.reduceAdd, Nat.reduceSub, Array.replicate_succ, Array.replicate_zero, List.push_toArray, List.append_toArray, List.nil_append, List.cons_append]
  refine wpIn_wide.2 ?_
  go_wp2_with fail
  with_reducible refine HC.out.mono ?_
  rintro e w1 ⟨Bs, rfl, hS, hb1, hBs⟩
  have heq := eqlfH (.func 46) #[] #[.pointer (some ⟨Bs, 0, none⟩)]
  have HS := Lib.hid hS
  clear hS
  go_wp2_with fail
  obtain ⟨wo, hwo⟩ : ∃ wo, w1.alloc (.cells #[.slice none 0 0] 38) = wo := ⟨_, rfl⟩
  rw [hwo]
  have zo : wo.heap.size = w1.heap.size + 1 := by rw [← hwo]; simp
  have bo : RowKit.Below w1.heap.size w1 wo := by rw [← hwo]; exact (RowKit.Below.refl _ _).alloc (Nat.le_refl _) _
  have bO : Boxed wo w1.heap.size 38 (.slice none 0 0) := by rw [← hwo]; exact Boxed.new _ _ _
  have HSo := Lib.hid (HS.out.below bo)
  have HBo := Lib.hid (hb1.trans (bo.mono hb1.size))
  have zw := hb1.size
  clear hwo hb1 bo HS heq
  refine wpIn_wide (n := 5) |>.1 ?_
  refine wpIn_rangeFunc_ownH rfl (by omega) (gf := 46) (lb := #[.pointer (some ⟨Bs, 0, none⟩)]) rfl trivial (enters_of Try.func46 (by kernel_rfl) rfl)
    (valH_stops _ (by omega) w1.heap.size Bs A (by omega) wo HSo.out (by omega)) belowK_t (belowK_b (by omega)) (RowKit.Below.refl _ _) (fun _ => rfl)
    (fun (pre : List Ch) W => (∃ v, Boxed W w1.heap.size 38 v ∧ W.ownsRow w1.heap.size 45 3 v pre.length (cellsL encH pre) ∧ True) ∧ RowKit.Below w1.heap.size wo W)
    (fun _ _ _ => False)
    (OwnFrom.and (Own.from (holdsRow_own w1.heap.size w1.heap.size 38 45 3 (fun (pre : List Ch) => pre.length) (fun (pre : List Ch) => cellsL encH pre) (fun pre v => True)) _) (ownFrom_below (by omega) (by omega)))
    (fun _ _ _ _ _ hs _ _ => hs)
    ⟨⟨_, bO, World.ownsRow_nil _ _ _ _, trivial⟩, RowKit.Below.refl _ _⟩
    (fun x a' W => ∃ Bx, w1.heap.size < Bx ∧ Blk W Bx (encH x).toArray 45 ∧ a' = { tmps := #[pv, undef, .slice none 0 0, .func (.func 46) #[] #[.pointer (some ⟨Bs, 0, none⟩)], .pointer (some ⟨w1.heap.size, 0, none⟩), .pointer (some ⟨Bx, 0, none⟩), pv, .func (.func 46) #[] #[.pointer (some ⟨Bs, 0, none⟩)], .func (.func 46) #[] #[.pointer (some ⟨Bs, 0, none⟩)], .bool false, .func (.func 46) #[] #[.pointer (some ⟨Bs, 0, none⟩)], .agg (encH x).toArray, undef, undef, undef, undef, undef, undef, undef, undef], defers := [] })
    (fun x a' _ X Y row hs hg hr => by
      obtain ⟨Bx, h1, h2, h3⟩ := hs
      refine ⟨Bx, h1, h2.grown hg (fun e => ?_), h3⟩
      obtain ⟨o, ho, hc⟩ := (hr Bx e).2
      rw [show X.heap[Bx]? = _ from h2] at ho
      cases ho
      cases hc)
    ?assign ?body ?done ?stop
  case assign =>
    rintro l pre x W K ⟨⟨v, hv, hrow, _⟩, hB⟩ hK
    have zW := hB.size
    have hK' := Lib.hid (hK { tmps := #[pv, undef, .slice none 0 0, .func (.func 46) #[] #[.pointer (some ⟨Bs, 0, none⟩)], .pointer (some ⟨w1.heap.size, 0, none⟩), .pointer (some ⟨W.heap.size, 0, none⟩), pv, .func (.func 46) #[] #[.pointer (some ⟨Bs, 0, none⟩)], .func (.func 46) #[] #[.pointer (some ⟨Bs, 0, none⟩)], .bool false, .func (.func 46) #[] #[.pointer (some ⟨Bs, 0, none⟩)], .agg (encH x).toArray, undef, undef, undef, undef, undef, undef, undef, undef], defers := [] } _ ((KeepsOthers.alloc _ _).from _) ((RowKit.Below.refl _ W).alloc (by omega) (.cells (encH x).toArray 45)) ⟨⟨v, hv.alloc _, hrow.alloc _, trivial⟩, hB.alloc (by omega) _⟩ ⟨W.heap.size, by omega, Blk.new _ _ _, rfl⟩)
    clear hK hv hrow hB
    obtain ⟨k, d, p⟩ := x
    dsimp only [encVH, encH] at hK' ⊢
    gi_wp2_with fail
    exact hK'.out
  case body =>
    rintro l pre x a' W hl ⟨r, hr⟩ ⟨⟨v, hv, hrow, _⟩, hB⟩ ⟨Bx, hBx, hX, rfl⟩ hlt
    have zW := hB.size
    have hc := hv.cell
    have hf := hv.frozen
    have hpl : pre.length < 500 := by omega
    obtain ⟨k, d, p⟩ := x
    dsimp only [encH] at hX ⊢
    have x0 : W.cell? ⟨Bx, 0, none⟩ = some (.int .i64 k) := hX.cell 0 rfl
    have x1 : W.cell? ⟨Bx, 1, none⟩ = some (.int .i64 d) := hX.cell 1 rfl
    have x2 : W.cell? ⟨Bx, 2, none⟩ = some (.int .i64 p) := hX.cell 2 rfl
    gi_wp2_with (gi_at_builtin; refine wpListIn_append_own _ rfl _ _ 38 rfl w1.heap.size 45 i0 _ 3 24 Try.underlying38 hi hi0 hi1 hi2 rfl (by decide) _ _ _ rfl (hrow.alloc _) ⟨W.heap.size, 0, none⟩ 1 1 [.int .i64 k, .int .i64 d, .int .i64 p] rfl rfl (World.news_of_block (cs := #[.int .i64 k, .int .i64 d, .int .i64 p]) (t := 45) (fr := (0, 0)) (heap_alloc_new W _)) (by simp [Value.oneCell']) (by unfold maxLen; omega) (by omega) (by simp; omega) ?_; intro v' w1' hown' hgrow _; obtain ⟨g', cap', rfl⟩ := ownsRow_succ hown'; obtain ⟨hv1, hv2, hr2, hk2, hb2⟩ := hv.appended (by decide) hrow (by omega) (Nat.le_refl _) hown' hgrow; have hc1 := hv1.cell; have hf1 := hv1.frozen)
    refine ⟨hk2.from _, hb2, ⟨⟨_, hv2, ?_, trivial⟩, hB.trans hb2⟩⟩
    rw [List.length_append, cellsL_snoc]
    exact hr2
  case done =>
    rintro D ys W hD rfl ⟨⟨v, hv, hrow, _⟩, hB⟩ hK
    have hc := hv.cell
    go_wp2_with fail
    refine ⟨by simp, .inl ⟨_, _, rfl, run_takeDeferred hK, ?_⟩⟩
    obtain ⟨a, cap, rfl, _, _, _, hx, hr⟩ := owned_recs (enc := encH) (size := 3) (fun _ => rfl) (ownsRow_putObj hrow (.deferred none) hK rfl) rfl
    exact ⟨_, results_tmp rfl _ _ _, a, cap, rfl, hr, (HBo.out.trans (hB.mono zw)).trans (belowK_b (w := w) (Nat.le_refl _) W D _ _ (by omega) hK rfl rfl)⟩
  case stop =>
    rintro D c pre W _ _ h _
    exact h.elim
end Go.Proofs.Ytfimgdjpnlcckaa
