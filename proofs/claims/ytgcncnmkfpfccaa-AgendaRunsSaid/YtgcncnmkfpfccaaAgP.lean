/- The law's items. -/
import Derived.Test.YtgcncnmkfpfccaaAgO
namespace Go.Proofs.Ytgcncnmkfpfccaa
open Go.RowKit Go.Sort Go.Shelf
set_option linter.unusedVariables false
set_option linter.unusedSimpArgs false
attribute [local go_sem] Oper.semAt_some

theorem eqlfI (fn : Fn) (a b : Array Value) (w : World) : (binOp .eql 57 (.func fn a b) .nilFunc).run Try.prog w = .ok (.bool false) w := by kernel_rfl
set_option maxRecDepth 100000 in
set_option maxHeartbeats 4000000 in
theorem items_any (pv : Value) (A : List It) (w : World) (h : Calls Try.prog 22 #[pv] w (SeqIEnd w A)) (hl : A.length ≤ 300) :
    Calls Try.prog 18 #[pv] w (RecI w A) := by
  obtain ⟨i0, hi, hi0, hi1, hi2⟩ := info_parts infoIt
  refine (callsIn_wide (n := 5)).1 ?_
  refine callsIn_of_wp_marks Try.func18 rfl trivial ?_ rfl
  simp only [Try.ntmps18, List.size_toArray, List.length_cons, List.length_nil, Nat.reduceAdd, Nat.reduceSub, Array.replicate_succ, Array.replicate_zero, List.push_toArray, List.append_toArray, List.nil_append, List.cons_append]
  refine wpIn_wide.2 ?_
  have HC := Lib.hid h
  clear h
  go_wp2_with fail
  with_reducible refine HC.out.mono ?_
  rintro e w1 ⟨Bs, rfl, hS, hb1, _⟩
  have heq := eqlfI (.func 40) #[] #[.pointer (some ⟨Bs, 0, none⟩)]
  obtain ⟨w0, hw0⟩ : ∃ w0, w1.alloc (.cells #[.slice none 0 0] 47) = w0 := ⟨_, rfl⟩
  have hb0 : Below w1.heap.size w1 w0 := by rw [← hw0]; exact (Below.refl _ _).alloc (Nat.le_refl _) _
  have z0 : w0.heap.size = w1.heap.size + 1 := by rw [← hw0]; simp
  have k4 : Boxed w0 w1.heap.size 47 (.slice none 0 0) := by rw [← hw0]; exact Boxed.new _ _ _
  have HS0 := Lib.hid (hS.below hb0)
  have z1 := hb1.size
  have HB0 := Lib.hid (hb1.trans (hb0.mono hb1.size))
  have HW0 := Lib.hid hw0
  clear hw0 hb0 hS hb1
  go_wp2_with fail
  rw [HW0.out]
  clear heq
  refine wpIn_wide (n := 5) |>.1 ?_
  refine wpIn_range_box rfl (by omega) (gf := 40) (lb := #[.pointer (some ⟨Bs, 0, none⟩)]) rfl trivial (enters_of Try.func40 (by kernel_rfl) rfl)
    (valI_stops _ (by omega) w1.heap.size Bs A (by omega) w0 HS0.out (by omega)) belowK_t (belowK_b (by omega)) (Below.refl _ _) (fun _ => rfl)
    (fun (pre : List It) W => (∃ v, Boxed W w1.heap.size 47 v ∧ W.ownsRow w1.heap.size 31 3 v pre.length (cellsL encI pre) ∧ True) ∧ (Below w1.heap.size w0 W ∧ w0.heap.size ≤ W.heap.size))
    (fun _ _ _ => False)
    (OwnFrom.and (Own.from (holdsRow_own w1.heap.size w1.heap.size 47 31 3 (fun (pre : List It) => pre.length) (fun (pre : List It) => cellsL encI pre) (fun pre v => True)) _) (OwnFrom.and (ownFrom_below (by omega) (by omega)) (fun s X Y row hs hg hr => Nat.le_trans hs hg.size)))
    (fun _ _ _ _ _ hs _ _ => hs)
    ⟨⟨_, k4, World.ownsRow_nil _ _ _ _, trivial⟩, Below.refl _ _, Nat.le_refl _⟩
    31 encI 5 w0.heap.size (fun pre W h => h.2.2) (fun pre W o h => (Below.refl _ _).alloc (by have := h.2.2; omega) _)
    ?assign ?body ?done ?stop
  case assign =>
    intro l pre x W K hI hK
    have hK' := Lib.hid hK
    clear hK hI
    obtain ⟨xd, xn, xt⟩ := x
    dsimp only [encVI, encI] at hK' ⊢
    gi_wp2_with fail
    simpa [boxAct, encI] using hK'.out
  case body =>
    rintro l pre x Bx W hl' ⟨r, hr⟩ ⟨⟨v, hv, hrow, _⟩, hB, hz⟩ hBx hX hlt
    have hc := hv.cell
    have hf := hv.frozen
    have HBW := Lib.hid hB
    clear hB
    have hpl : pre.length < 300 := by omega
    have d300 : decide ((300 : Int) < (pre.length : Int) + 1) = false := decide_eq_false (by omega)
    obtain ⟨xd, xn, xt⟩ := x
    dsimp only [encI] at hX
    have x0 : W.cell? ⟨Bx, 0, none⟩ = some (.int .i64 xd) := hX.cell 0 rfl
    have x1 : W.cell? ⟨Bx, 1, none⟩ = some (.int .i64 xn) := hX.cell 1 rfl
    have x2 : W.cell? ⟨Bx, 2, none⟩ = some (.int .i64 xt) := hX.cell 2 rfl
    clear hX
    simp only [boxAct]
    gi_wp2_with (gi_at_builtin; refine wpListIn_append_own _ rfl _ _ 47 rfl w1.heap.size 31 i0 _ 3 24 Try.underlying47 hi hi0 hi1 hi2 rfl (by decide) _ _ _ rfl (hrow.alloc _) ⟨W.heap.size, 0, none⟩ 1 1 [.int .i64 xd, .int .i64 xn, .int .i64 xt] rfl rfl (World.news_of_block (cs := #[.int .i64 xd, .int .i64 xn, .int .i64 xt]) (t := 31) (fr := (0, 0)) (heap_alloc_new W _)) (by simp [Value.oneCell']) (by unfold maxLen; omega) (by omega) (by simp; omega) ?_; intro v' w1' hown' hgrow _; obtain ⟨g', cap', rfl⟩ := ownsRow_succ hown'; obtain ⟨hv1, hv2, hr2, hko, hb2⟩ := hv.appended (by decide) hrow (by omega) (by omega) hown' hgrow; have hc1 := hv1.cell; have hf1 := hv1.frozen; have hzz := hgrow.size)
    refine ⟨hko.from _, hb2, ⟨⟨_, hv2, ?_, trivial⟩, HBW.out.trans hb2, ?_⟩⟩
    · rw [List.length_append, cellsL_snoc]
      exact hr2
    · simp [World.setCell] at hzz ⊢
      omega
  case done =>
    rintro D ys W hD rfl ⟨⟨v, hv, hrow, _⟩, hB, hz⟩ hK
    have hc := hv.cell
    have HR := Lib.hid (ownsRow_putObj hrow (.deferred none) hK rfl)
    have HBd := Lib.hid hB
    clear hB
    go_wp2_with fail
    refine ⟨by simp, .inl ⟨_, _, rfl, run_takeDeferred hK, ?_⟩⟩
    obtain ⟨a, cap, rfl, _, _, _, hax, hr⟩ := owned_recs (enc := encI) (size := 3) (fun _ => rfl) HR.out rfl
    exact ⟨_, results_tmp rfl _ _ _, a, cap, rfl, hr, (HB0.out.trans (HBd.out.mono (by omega))).trans (belowK_b (w := w) (Nat.le_refl _) _ D _ _ (by omega) hK rfl rfl), fun x e => by have := hax x e; omega⟩
  case stop =>
    rintro D c pre W _ _ h _
    exact h.elim

theorem items_ok (base B bm : Nat) (sv : Value) (S : List It) (N : Int) (w : World) (h : AgAt w base B bm sv S N) (hl : S.length ≤ 300) : Calls Try.prog 18 #[.pointer (some ⟨B, 0, none⟩)] w (RecI w S) := items_any _ S w (all_ok base B bm sv S N w h (by omega)) hl
theorem items_nil (w : World) : Calls Try.prog 18 #[.pointer none] w (RecI w []) := items_any _ [] w (all_nil w) (by simp)

end Go.Proofs.Ytgcncnmkfpfccaa
