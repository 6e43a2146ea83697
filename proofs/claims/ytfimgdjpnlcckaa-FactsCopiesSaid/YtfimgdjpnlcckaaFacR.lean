/- Package facts: First. -/
import Derived.Test.YtfimgdjpnlcckaaFacT
namespace Go.Proofs.Ytfimgdjpnlcckaa
open Go.RowKit Go.Sort Go.Shelf
set_option linter.unusedVariables false
set_option linter.unusedSimpArgs false
attribute [local go_sem] Oper.semAt_some

/-- First's boxes: its parameters and its results. -/
structure FBox (W : World) (B : Nat) (k f t p r : Int) (is : Bool) : Prop where
  k : Boxed W B 3 (.int .i64 k)
  f : Boxed W (B + 1) 3 (.int .i64 f)
  t : Boxed W (B + 2) 3 (.int .i64 t)
  p : Boxed W (B + 3) 3 (.int .i64 p)
  r : Boxed W (B + 4) 3 (.int .i64 r)
  i : Boxed W (B + 5) 4 (.bool is)
theorem FBox.own (B : Nat) {β : Type} (k f t p : Int) (r : β → Int) (is : Bool) : Own (fun (s : β) W => FBox W B k f t p (r s) is) := fun s X Y row hs hg hr =>
  ⟨boxed_own B _ (fun _ => Value.int .i64 k) s X Y row hs.k hg hr, boxed_own (B + 1) _ (fun _ => Value.int .i64 f) s X Y row hs.f hg hr, boxed_own (B + 2) _ (fun _ => Value.int .i64 t) s X Y row hs.t hg hr,
   boxed_own (B + 3) _ (fun _ => Value.int .i64 p) s X Y row hs.p hg hr, boxed_own (B + 4) _ (fun s => Value.int .i64 (r s)) s X Y row hs.r hg hr, boxed_own (B + 5) _ (fun _ => Value.bool is) s X Y row hs.i hg hr⟩
theorem FBox.alloc {W : World} {B : Nat} {k f t p r : Int} {is : Bool} (h : FBox W B k f t p r is) (o : Obj) : FBox (W.alloc o) B k f t p r is :=
  ⟨h.k.alloc o, h.f.alloc o, h.t.alloc o, h.p.alloc o, h.r.alloc o, h.i.alloc o⟩
theorem FBox.grown {W W' : World} {B : Nat} {k f t p r : Int} {is : Bool} (h : FBox W B k f t p r is) (hg : W.grownBy W' none) : FBox W' B k f t p r is :=
  ⟨h.k.kept hg (by simp), h.f.kept hg (by simp), h.t.kept hg (by simp), h.p.kept hg (by simp), h.r.kept hg (by simp), h.i.kept hg (by simp)⟩
theorem FBox.put {W : World} {B : Nat} {k f t p r : Int} {is : Bool} (h : FBox W B k f t p r is) (r' : Int) (is' : Bool) : FBox ((W.setCell ⟨B + 4, 0, none⟩ (.int .i64 r')).setCell ⟨B + 5, 0, none⟩ (.bool is')) B k f t p r' is' :=
  ⟨(h.k.other (by omega) _).other (by omega) _, (h.f.other (by omega) _).other (by omega) _, (h.t.other (by omega) _).other (by omega) _, (h.p.other (by omega) _).other (by omega) _, (h.r.set _).other (by omega) _, (h.i.other (by omega) _).set _⟩

theorem boxed_at {w : World} {n : Nat} (h : w.heap.size = n) (T : TypeId) (v : Value) : Boxed (w.alloc (.cells #[v] T)) n T v := by subst h; exact Boxed.new _ _ _
def firstB (x : Ch) (k a b p : Int) : Bool := decide (x.k = k ∧ a ≤ x.d ∧ x.d ≤ b ∧ x.p = p)
set_option maxRecDepth 100000 in
set_option maxHeartbeats 4000000 in
theorem first_any (pv : Value) (C : List Ch) (key fr to pick : Int) (w : World) (h : ∀ W, Below w.heap.size w W → Calls Try.prog 25 #[pv] W (SeqHEnd W C)) (hl : C.length ≤ 500) :
    Calls Try.prog 20 #[pv, .int .i64 key, .int .i64 fr, .int .i64 to, .int .i64 pick] w (FirstEnd w ((firstH C key fr to pick).map Ch.d)) := by
  have HC := Lib.hid h
  clear h
  refine (callsIn_wide (n := 5)).1 ?_
  refine callsIn_of_wp_marks Try.func20 rfl trivial ?_ rfl
  simp only [Try.ntmps20, List.size_toArray, List.length_cons, List.length_nil, Nat.reduceAdd, Nat.reduceSub, Array.replicate_succ, Array.replicate_zero, List.push_toArray, List.append_toArray, List.nil_append, List.cons_append]
  refine wpIn_wide.2 ?_
  go_wp2_with fail
  obtain ⟨w0, hw0⟩ : ∃ w0, (((((w.alloc (.cells #[.int .i64 key] 3)).alloc (.cells #[.int .i64 fr] 3)).alloc (.cells #[.int .i64 to] 3)).alloc (.cells #[.int .i64 pick] 3)).alloc (.cells #[.int .i64 0] 3)).alloc (.cells #[.bool false] 4) = w0 := ⟨_, rfl⟩
  rw [hw0]
  have hb0 : Below w.heap.size w w0 := by rw [← hw0]; exact ((((((Below.refl _ _).alloc (Nat.le_refl _) _).alloc (by simp) _).alloc (by simp; omega) _).alloc (by simp; omega) _).alloc (by simp; omega) _).alloc (by simp; omega) _
  have z0 : w0.heap.size = w.heap.size + 6 := by rw [← hw0]; simp
  have hF : FBox w0 w.heap.size key fr to pick 0 false := by
    rw [← hw0]
    exact ⟨(((((boxed_at rfl _ _).alloc _).alloc _).alloc _).alloc _).alloc _, ((((boxed_at (by simp) _ _).alloc _).alloc _).alloc _).alloc _, (((boxed_at (by simp) _ _).alloc _).alloc _).alloc _, ((boxed_at (by simp) _ _).alloc _).alloc _, (boxed_at (by simp) _ _).alloc _, boxed_at (by simp) _ _⟩
  have HF := Lib.hid hF
  have HB0 := Lib.hid hb0
  have Z0 := Lib.hid z0
  clear hw0 hF hb0 z0
  with_reducible refine (HC.out _ HB0.out).mono ?_
  rintro e w1 ⟨Bs, rfl, hS, hb1, hBs⟩
  have hF1 := HF.out.grown (below_grownN hb1)
  have HB1 := Lib.hid (HB0.out.trans (hb1.mono HB0.out.size))
  have z1 : w.heap.size + 6 ≤ w1.heap.size := by have := Z0.out; have := hb1.size; omega
  have HS := Lib.hid hS
  clear hb1 HF hS
  go_wp2_with fail
  refine wpIn_wide (n := 5) |>.1 ?_
  refine wpIn_rangeFunc_ownH rfl (by omega) (gf := 46) (lb := #[.pointer (some ⟨Bs, 0, none⟩)]) rfl trivial (enters_of Try.func46 (by kernel_rfl) rfl)
    (valH_stops _ (by omega) w1.heap.size Bs C (by omega) w1 HS.out (by omega)) belowK_t (belowK_b (by omega)) (Below.refl _ _) (fun _ => rfl)
    (fun (pre : List Ch) W => (FBox W w.heap.size key fr to pick 0 false ∧ ∀ x ∈ pre, firstB x key fr to pick = false) ∧ Below w.heap.size w1 W)
    (fun c pre W => (FBox W w.heap.size key fr to pick ((pre.getLastD default).d) true ∧ c = .ret ∧ ∃ (q : List Ch) (x : Ch), pre = q ++ [x] ∧ (∀ y ∈ q, firstB y key fr to pick = false) ∧ firstB x key fr to pick = true) ∧ Below w.heap.size w1 W)
    (OwnFrom.and (OwnFrom.and (Own.from (FBox.own _ _ _ _ _ (fun _ => 0) _) _) (ownFrom_pure _ _)) (ownFrom_below (by omega) (by omega)))
    (fun c => OwnFrom.and (OwnFrom.and (Own.from (FBox.own _ _ _ _ _ (fun (pre : List Ch) => (pre.getLastD default).d) _) _) (ownFrom_pure _ _)) (ownFrom_below (by omega) (by omega)))
    ⟨⟨hF1, fun x hx => by cases hx⟩, Below.refl _ _⟩
    (fun x a' W => ∃ Bx, w1.heap.size ≤ Bx ∧ Blk W Bx (encH x).toArray 45 ∧ a' = { tmps := #[pv, .int .i64 key, .int .i64 fr, .int .i64 to, .int .i64 pick, undef, .pointer (some ⟨w.heap.size, 0, none⟩), .pointer (some ⟨w.heap.size + 1, 0, none⟩), .pointer (some ⟨w.heap.size + 2, 0, none⟩), .pointer (some ⟨w.heap.size + 3, 0, none⟩), .pointer (some ⟨w.heap.size + 4, 0, none⟩), .pointer (some ⟨w.heap.size + 5, 0, none⟩), .pointer (some ⟨Bx, 0, none⟩), pv, .func (.func 46) #[] #[.pointer (some ⟨Bs, 0, none⟩)], .agg (encH x).toArray, undef, undef, undef, undef, undef, undef, undef, undef, undef, undef, undef, undef, undef, undef, undef, undef, undef, undef, undef, undef, undef, undef, undef, undef], defers := [] })
    (fun x a' _ X Y row hs hg hr => by
      obtain ⟨Bx, h1, h2, h3⟩ := hs
      refine ⟨Bx, h1, h2.grown hg (fun e => ?_), h3⟩
      obtain ⟨o, ho, hc⟩ := (hr Bx e).2
      rw [show X.heap[Bx]? = _ from h2] at ho
      cases ho
      cases hc)
    ?assign ?body ?done ?stop
  case assign =>
    rintro l pre x W K ⟨⟨hFW, hp⟩, hB⟩ hK
    have zW := hB.size
    have hK' := Lib.hid (hK { tmps := #[pv, .int .i64 key, .int .i64 fr, .int .i64 to, .int .i64 pick, undef, .pointer (some ⟨w.heap.size, 0, none⟩), .pointer (some ⟨w.heap.size + 1, 0, none⟩), .pointer (some ⟨w.heap.size + 2, 0, none⟩), .pointer (some ⟨w.heap.size + 3, 0, none⟩), .pointer (some ⟨w.heap.size + 4, 0, none⟩), .pointer (some ⟨w.heap.size + 5, 0, none⟩), .pointer (some ⟨W.heap.size, 0, none⟩), pv, .func (.func 46) #[] #[.pointer (some ⟨Bs, 0, none⟩)], .agg (encH x).toArray, undef, undef, undef, undef, undef, undef, undef, undef, undef, undef, undef, undef, undef, undef, undef, undef, undef, undef, undef, undef, undef, undef, undef, undef], defers := [] } _ ((KeepsOthers.alloc _ _).from _) ((Below.refl _ W).alloc zW (.cells (encH x).toArray 45)) ⟨⟨hFW.alloc _, hp⟩, hB.alloc (by omega) _⟩ ⟨W.heap.size, zW, Blk.new _ _ _, rfl⟩)
    clear hK hFW hB hp
    obtain ⟨k, d, p⟩ := x
    dsimp only [encVH, encH] at hK' ⊢
    gi_wp2_with fail
    exact hK'.out
  case body =>
    rintro l pre x a' W hl ⟨r, hr⟩ ⟨⟨hFW, hp⟩, hB⟩ ⟨Bx, hBx, hX, rfl⟩ hlt
    have zW := hB.size
    have q1 := hFW.k.cell
    have q2 := hFW.f.cell
    have q3 := hFW.t.cell
    have q4 := hFW.p.cell
    have q5 := hFW.r.cell
    have q6 := hFW.i.cell
    have q7 := hFW.r.frozen
    have q8 := hFW.i.frozen
    have HFW := Lib.hid hFW
    have HX := Lib.hid hp
    have HBW := Lib.hid hB
    clear hFW hp hB hlt
    obtain ⟨k, d, p⟩ := x
    dsimp only [encH] at hX ⊢
    have x0 : W.cell? ⟨Bx, 0, none⟩ = some (.int .i64 k) := hX.cell 0 rfl
    have x1 : W.cell? ⟨Bx, 1, none⟩ = some (.int .i64 d) := hX.cell 1 rfl
    have x2 : W.cell? ⟨Bx, 2, none⟩ = some (.int .i64 p) := hX.cell 2 rfl
    clear hX
    by_cases h1 : k = key
    · subst h1
      by_cases h2 : fr ≤ d
      · have h2' : decide (fr ≤ d) = true := decide_eq_true h2
        by_cases h3 : d ≤ to
        · have h3' : decide (d ≤ to) = true := decide_eq_true h3
          by_cases h4 : p = pick
          · subst h4
            have HB : Hid (firstB ⟨k, d, p⟩ k fr to p = true) := decide_eq_true ⟨rfl, h2, h3, rfl⟩
            clear h2 h3
            gi_wp2_with fail
            exact ⟨((KeepsOthers.setCell _ _ _).trans (KeepsOthers.setCell _ _ _)).from _, ⟨by rw [List.getLastD_concat]; exact HFW.out.put d true, rfl, pre, ⟨k, d, p⟩, rfl, HX.out, HB.out⟩, (HBW.out.setCell (p := ⟨w.heap.size + 4, 0, none⟩) (by simp) _).setCell (p := ⟨w.heap.size + 5, 0, none⟩) (by simp) _⟩
          · have h4' : (p == pick) = false := by simpa using h4
            have HN : Hid (firstB ⟨k, d, p⟩ k fr to pick = false) := by show _ = _; simp [firstB, h4]
            clear h2 h3 h4
            gi_wp2_with fail
            exact ⟨KeepsFrom.refl _ _, Below.refl _ _, ⟨HFW.out, fun y hy => by
              rcases List.mem_append.1 hy with hy | hy
              · exact HX.out y hy
              · obtain rfl := List.mem_singleton.1 hy
                exact HN.out⟩, HBW.out⟩
        · have h3' : decide (d ≤ to) = false := decide_eq_false h3
          have HN : Hid (firstB ⟨k, d, p⟩ k fr to pick = false) := by show _ = _; simp [firstB, h3]
          clear h2 h3
          gi_wp2_with fail
          exact ⟨KeepsFrom.refl _ _, Below.refl _ _, ⟨HFW.out, fun y hy => by
            rcases List.mem_append.1 hy with hy | hy
            · exact HX.out y hy
            · obtain rfl := List.mem_singleton.1 hy
              exact HN.out⟩, HBW.out⟩
      · have h2' : decide (fr ≤ d) = false := decide_eq_false h2
        have HN : Hid (firstB ⟨k, d, p⟩ k fr to pick = false) := by show _ = _; simp [firstB, h2]
        clear h2
        gi_wp2_with fail
        exact ⟨KeepsFrom.refl _ _, Below.refl _ _, ⟨HFW.out, fun y hy => by
          rcases List.mem_append.1 hy with hy | hy
          · exact HX.out y hy
          · obtain rfl := List.mem_singleton.1 hy
            exact HN.out⟩, HBW.out⟩
    · have h1' : (k == key) = false := by simpa using h1
      have HN : Hid (firstB ⟨k, d, p⟩ key fr to pick = false) := by show _ = _; simp [firstB, h1]
      clear h1
      gi_wp2_with fail
      exact ⟨KeepsFrom.refl _ _, Below.refl _ _, ⟨HFW.out, fun y hy => by
        rcases List.mem_append.1 hy with hy | hy
        · exact HX.out y hy
        · obtain rfl := List.mem_singleton.1 hy
          exact HN.out⟩, HBW.out⟩
  case done =>
    rintro D ys W hD rfl ⟨⟨hFW, hp⟩, hB⟩ hK
    have q5 := hFW.r.cell
    have q6 := hFW.i.cell
    have q7 := hFW.r.frozen
    have q8 := hFW.i.frozen
    have HF2 := Lib.hid (hFW.put 0 false)
    have hB2 := (hB.setCell (p := ⟨w.heap.size + 4, 0, none⟩) (by simp) (.int .i64 0)).setCell (p := ⟨w.heap.size + 5, 0, none⟩) (by simp) (.bool false)
    have HG : Hid (firstH ys key fr to pick = none) := find_none hp
    clear hp
    go_wp2_with fail
    have hK2 : ((W.setCell ⟨w.heap.size + 4, 0, none⟩ (.int .i64 0)).setCell ⟨w.heap.size + 5, 0, none⟩ (.bool false)).heap[D]? = some (.deferred (some [])) :=
      (Below.heap_setCell _ _ _ D (by simp; omega)).trans ((Below.heap_setCell _ _ _ D (by simp; omega)).trans hK)
    refine ⟨by simp, .inl ⟨_, _, rfl, run_takeDeferred hK2, ?_⟩⟩
    have r1 := cell_kept HF2.out.r.cell (grownBy_putObj' _ D (.deferred none)) (fun r e => by cases e; exact ⟨_, hK2, rfl⟩)
    have r2 := cell_kept HF2.out.i.cell (grownBy_putObj' _ D (.deferred none)) (fun r e => by cases e; exact ⟨_, hK2, rfl⟩)
    refine ⟨.tuple #[.int .i64 0, .bool false], ?_, ?_, (HB1.out.trans hB2).trans (belowK_b (w := w) (Nat.le_refl _) _ D _ _ (by omega) hK2 rfl rfl)⟩
    · simp [results, Try.results20, go_sem, r1, r2]
    · rw [HG.out]
      rfl
  case stop =>
    rintro D c pre W hD hpre ⟨⟨hFW, rfl, q, x, rfl, hq, hx⟩, hB⟩ hK
    have HF2 := Lib.hid hFW
    have HG : Hid (firstH C key fr to pick = some x) := by
      obtain ⟨t, rfl⟩ := hpre
      refine find_first (j := q.length) (fun y hy => hq y ?_) ?_ hx
      · simpa using hy
      · simp
    rw [List.getLastD_concat] at HF2
    clear hFW hq hx hpre
    gi_wp2_with fail
    refine ⟨by simp, .inl ⟨_, _, rfl, run_takeDeferred hK, ?_⟩⟩
    have r1 := cell_kept HF2.out.r.cell (grownBy_putObj' _ D (.deferred none)) (fun r e => by cases e; exact ⟨_, hK, rfl⟩)
    have r2 := cell_kept HF2.out.i.cell (grownBy_putObj' _ D (.deferred none)) (fun r e => by cases e; exact ⟨_, hK, rfl⟩)
    refine ⟨.tuple #[.int .i64 x.d, .bool true], ?_, ?_, (HB1.out.trans hB).trans (belowK_b (w := w) (Nat.le_refl _) _ D _ _ (by omega) hK rfl rfl)⟩
    · simp [results, Try.results20, go_sem, r1, r2]
    · rw [HG.out]
      rfl

theorem first_ok (p ba bc : Nat) (A : List Fx) (C : List Ch) (key fr to pick : Int) (w : World) (h : FactsAt w p ba bc A C) (hl : C.length ≤ 500) :
    Calls Try.prog 20 #[.pointer (some ⟨p, 0, none⟩), .int .i64 key, .int .i64 fr, .int .i64 to, .int .i64 pick] w (FirstEnd w ((firstH C key fr to pick).map Ch.d)) :=
  first_any _ C key fr to pick w (fun W hW => seqH_ok p ba bc A C W (h.after hW) (by omega)) hl
theorem first_nil (key fr to pick : Int) (w : World) :
    Calls Try.prog 20 #[.pointer none, .int .i64 key, .int .i64 fr, .int .i64 to, .int .i64 pick] w (FirstEnd w none) :=
  first_any _ [] key fr to pick w (fun W _ => seqH_nil W) (by simp)

end Go.Proofs.Ytfimgdjpnlcckaa
