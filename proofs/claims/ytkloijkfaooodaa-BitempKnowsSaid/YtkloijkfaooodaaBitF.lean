/- Package bitemp: Latest. -/
import Derived.Test.YtkloijkfaooodaaBitE
namespace Go.Proofs.Ytkloijkfaooodaa
open Go.RowKit Go.Shelf
set_option linter.unusedVariables false
set_option linter.unusedSimpArgs false
attribute [local go_sem] Oper.semAt_some

theorem backward_ok (a : Option Addr) (n cap : Nat) (w : World) : Calls Try.prog 40 #[.slice a n cap] w fun e w' => e = .returned (.func (.func 57) #[] #[.pointer (some ⟨w.heap.size, 0, none⟩)]) ∧ w' = w.alloc (.cells #[.slice a n cap] 35) := by
  go_enter Try.func40, Try.ntmps40
  go_wp2_with fail
  go_ret
  exact ⟨rfl, rfl⟩

theorem below_setCells {N : Nat} {w w0 : World} {B : Nat} (h : Below N w w0) (hB : N ≤ B) (j : Nat) (v : Value) : Below N w (w0.setCell ⟨B, j, none⟩ v) := h.setCell (p := ⟨B, j, none⟩) hB v
/-- A version stored cell by cell. -/
def put7 (w : World) (B : Nat) (v : Vs) : World :=
  ((((((w.setCell ⟨B, 0, none⟩ (.int .i64 v.s)).setCell ⟨B, 1, none⟩ (.bool v.c)).setCell ⟨B, 2, none⟩ (.int .i64 v.k)).setCell ⟨B, 3, none⟩ (.int .i64 v.d)).setCell ⟨B, 4, none⟩ (.int .i64 v.n)).setCell ⟨B, 5, none⟩ (.int .i64 v.m)).setCell ⟨B, 6, none⟩ (.int .i64 v.p)
theorem set7 {w : World} {B : Nat} {T : TypeId} {c0 c1 c2 c3 c4 c5 c6 : Value} (h : Blk w B #[c0, c1, c2, c3, c4, c5, c6] T) (v0 v1 v2 v3 v4 v5 v6 : Value) :
    Blk (((((((w.setCell ⟨B, 0, none⟩ v0).setCell ⟨B, 1, none⟩ v1).setCell ⟨B, 2, none⟩ v2).setCell ⟨B, 3, none⟩ v3).setCell ⟨B, 4, none⟩ v4).setCell ⟨B, 5, none⟩ v5).setCell ⟨B, 6, none⟩ v6) B #[v0, v1, v2, v3, v4, v5, v6] T := by
  have h0 : Blk _ B #[v0, c1, c2, c3, c4, c5, c6] T := h.set 0 v0
  have h1 : Blk _ B #[v0, v1, c2, c3, c4, c5, c6] T := h0.set 1 v1
  have h2 : Blk _ B #[v0, v1, v2, c3, c4, c5, c6] T := h1.set 2 v2
  have h3 : Blk _ B #[v0, v1, v2, v3, c4, c5, c6] T := h2.set 3 v3
  have h4 : Blk _ B #[v0, v1, v2, v3, v4, c5, c6] T := h3.set 4 v4
  have h5 : Blk _ B #[v0, v1, v2, v3, v4, v5, c6] T := h4.set 5 v5
  have h6 : Blk _ B #[v0, v1, v2, v3, v4, v5, v6] T := h5.set 6 v6
  exact h6
theorem put7_blk {w : World} {B : Nat} {u : Vs} {T : TypeId} (h : Blk w B (encS u).toArray T) (v : Vs) : Blk (put7 w B v) B (encS v).toArray T := by
  obtain ⟨u0, u1, u2, u3, u4, u5, u6⟩ := u
  exact set7 h _ _ _ _ _ _ _
theorem put7_far {w : World} {B B' : Nat} {cs : Array Value} {T : TypeId} (h : Blk w B cs T) (hn : B ≠ B') (v : Vs) : Blk (put7 w B' v) B cs T :=
  ((((((h.far 0 _ hn).far 1 _ hn).far 2 _ hn).far 3 _ hn).far 4 _ hn).far 5 _ hn).far 6 _ hn
theorem put7_below {N : Nat} {w w0 : World} {B : Nat} (h : Below N w w0) (hB : N ≤ B) (v : Vs) : Below N w (put7 w0 B v) :=
  below_setCells (below_setCells (below_setCells (below_setCells (below_setCells (below_setCells (below_setCells h hB _ _) hB _ _) hB _ _) hB _ _) hB _ _) hB _ _) hB _ _
theorem put7_others (w : World) (B : Nat) (v : Vs) : KeepsOthers w (put7 w B v) :=
  ((((((KeepsOthers.setCell _ _ _).trans (KeepsOthers.setCell _ _ _)).trans (KeepsOthers.setCell _ _ _)).trans (KeepsOthers.setCell _ _ _)).trans (KeepsOthers.setCell _ _ _)).trans (KeepsOthers.setCell _ _ _)).trans (KeepsOthers.setCell _ _ _)

def latV (o : Option Vs) : Value := .tuple #[.agg (encS (o.getD default)).toArray, .bool o.isSome]
def LatEnd (w : World) (o : Option Vs) (e : Ending) (w' : World) : Prop := e = .returned (latV o) ∧ Below w.heap.size w w'
/-- Latest's boxes. -/
structure LBox (W : World) (B : Nat) (s : Int) (r : Vs) (is : Bool) : Prop where
  s : Blk W B #[.int .i64 s] 3
  r : Blk W (B + 1) (encS r).toArray 26
  i : Blk W (B + 1 + 1) #[.bool is] 4
theorem LBox.own (B : Nat) {β : Type} (s : Int) (r : β → Vs) (is : Bool) : Own (fun (x : β) W => LBox W B s (r x) is) := fun x X Y row hs hg hr =>
  ⟨blk_own B (fun _ => #[.int .i64 s]) _ x X Y row hs.s hg hr, blk_own (B + 1) (fun x => (encS (r x)).toArray) _ x X Y row hs.r hg hr, blk_own (B + 1 + 1) (fun _ => #[.bool is]) _ x X Y row hs.i hg hr⟩
theorem LBox.after {W W' : World} {B : Nat} {s : Int} {r : Vs} {is : Bool} (h : LBox W B s r is) (hb : Below W.heap.size W W') : LBox W' B s r is := ⟨h.s.after hb, h.r.after hb, h.i.after hb⟩
theorem LBox.put {W : World} {B : Nat} {s : Int} {r : Vs} {is : Bool} (h : LBox W B s r is) (r' : Vs) (is' : Bool) : LBox ((put7 W (B + 1) r').setCell ⟨B + 1 + 1, 0, none⟩ (.bool is')) B s r' is' :=
  ⟨(put7_far h.s (by omega) _).far 0 _ (by omega), (put7_blk h.r r').far 0 _ (by omega), (put7_far h.i (by omega) _).set 0 _⟩

set_option maxRecDepth 100000 in
set_option maxHeartbeats 4000000 in
theorem lat_any (pv : Value) (L : List Vs) (c : Bool) (key day s : Int) (w : World) (h : ∀ W, Below w.heap.size w W → Calls Try.prog 39 #[pv, pkV (c, key, day)] W (OfEnd W L)) (hl : L.length ≤ 2513169434910) :
    Calls Try.prog 16 #[pv, .bool c, .int .i64 key, .int .i64 day, .int .i64 s] w (LatEnd w (L.reverse.find? fun v => decide (v.s ≤ s))) := by
  have HC : Hid (∀ W, Below w.heap.size w W → Calls Try.prog 39 #[pv, .agg #[.bool c, .int .i64 key, .int .i64 day]] W (OfEnd W L)) := h
  clear h
  refine (callsIn_wide (n := 5)).1 ?_
  refine callsIn_of_wp_marks Try.func16 rfl trivial ?_ rfl
  simp only [Try.ntmps16, List.size_toArray, List.length_cons, List.length_nil, Nat.reduceAdd, Nat.reduceSub, Array.replicate_succ, Array.replicate_zero, List.push_toArray, List.append_toArray, List.nil_append, List.cons_append]
  refine wpIn_wide.2 ?_
  go_wp2_with fail
  obtain ⟨w0, hw0⟩ : ∃ w0, ((w.alloc (.cells #[.int .i64 s] 3)).alloc (.cells #[.int .i64 0, .bool false, .int .i64 0, .int .i64 0, .int .i64 0, .int .i64 0, .int .i64 0] 26)).alloc (.cells #[.bool false] 4) = w0 := ⟨_, rfl⟩
  rw [hw0]
  have hb0 : Below w.heap.size w w0 := by rw [← hw0]; exact (((Below.refl _ _).alloc (Nat.le_refl _) _).alloc (by simp) _).alloc (by simp; omega) _
  have z0 : w0.heap.size = w.heap.size + 3 := by rw [← hw0]; simp
  have hF : LBox w0 w.heap.size s default false := by
    rw [← hw0]
    refine ⟨((Blk.new _ _ _).alloc _).alloc _, ?_, ?_⟩
    · have := Blk.new (w.alloc (.cells #[.int .i64 s] 3)) (encS default).toArray 26
      rw [World.size_alloc] at this
      exact this.alloc _
    · have := Blk.new ((w.alloc (.cells #[.int .i64 s] 3)).alloc (.cells (encS default).toArray 26)) #[.bool false] 4
      rw [World.size_alloc, World.size_alloc] at this
      exact this
  have HF := Lib.hid hF
  have HB0 := Lib.hid hb0
  have Z0 := Lib.hid z0
  clear hw0 hF hb0 z0
  with_reducible refine (HC.out _ HB0.out).mono ?_
  rintro e w1 ⟨a, cap, rfl, hR, hb1, hax⟩
  have HF1 := Lib.hid (HF.out.after hb1)
  have HB1 := Lib.hid (HB0.out.trans (hb1.mono HB0.out.size))
  have z1 : w.heap.size + 3 ≤ w1.heap.size := by have := Z0.out; have := hb1.size; omega
  have HR := Lib.hid hR
  have HA := Lib.hid hax
  clear hb1 hR hax HF
  go_wp2_with fail
  with_reducible refine (backward_ok _ _ _ _).mono ?_
  rintro e w2 ⟨rfl, hw2⟩
  have hb2 : Below w1.heap.size w1 w2 := by rw [hw2]; exact (Below.refl _ _).alloc (Nat.le_refl _) _
  have hS : SeqAt w2 w2.heap.size w1.heap.size 7 35 encS L := by
    rw [hw2]
    refine ⟨a, cap, Blk.new _ _ _, RowsAt.after HR.out ((Below.refl _ _).alloc (Nat.le_refl _) _), by simp, fun x e => ?_⟩
    have := HA.out x e
    simp
    omega
  have z2 : w1.heap.size < w2.heap.size := by rw [hw2]; simp
  have HF2 := HF1.out.after hb2
  have HB2 := Lib.hid (HB1.out.trans (hb2.mono HB1.out.size))
  have HS := Lib.hid hS
  clear hw2 hb2 hS HF1 HB1
  have HB1 := HB2
  go_wp2_with fail
  refine wpIn_wide (n := 5) |>.1 ?_
  refine wpIn_range_box rfl (by omega) (gf := 57) (lb := #[.pointer (some ⟨w1.heap.size, 0, none⟩)]) rfl trivial (enters_of Try.func57 (by kernel_rfl) rfl)
    (back_stops _ (by omega) w2.heap.size w1.heap.size L (by omega) w2 HS.out (by omega)) belowK_t (belowK_b (by omega)) (Below.refl _ _) (fun _ => rfl)
    (fun (pre : List (Int × Vs)) W => (LBox W w.heap.size s default false ∧ ∀ x ∈ pre, decide (x.2.s ≤ s) = false) ∧ Below w.heap.size w2 W)
    (fun c pre W => (LBox W w.heap.size s ((pre.getLastD default).2) true ∧ c = .ret ∧ ∃ (q : List (Int × Vs)) (x : Int × Vs), pre = q ++ [x] ∧ (∀ y ∈ q, decide (y.2.s ≤ s) = false) ∧ decide (x.2.s ≤ s) = true) ∧ Below w.heap.size w2 W)
    (OwnFrom.and (OwnFrom.and (Own.from (LBox.own _ _ (fun _ => default) _) _) (ownFrom_pure _ _)) (ownFrom_below (by omega) (by omega)))
    (fun c => OwnFrom.and (OwnFrom.and (Own.from (LBox.own _ _ (fun (pre : List (Int × Vs)) => (pre.getLastD default).2) _) _) (ownFrom_pure _ _)) (ownFrom_below (by omega) (by omega)))
    ⟨⟨HF2, fun x hx => by cases hx⟩, Below.refl _ _⟩
    26 (fun x => encS x.2) 14 w2.heap.size (fun pre W h => h.2.size) (fun pre W o h => (Below.refl _ _).alloc (by have := h.2.size; omega) _)
    ?assign ?body ?done ?stop
  case assign =>
    intro l pre x W K hI hK
    have hK' := Lib.hid hK
    clear hK hI
    obtain ⟨i, ⟨xs, xc, xk, xd, xn, xm, xp⟩⟩ := x
    dsimp only [encB, encS] at hK' ⊢
    gi_wp2_with fail
    simpa [boxAct, encS] using hK'.out
  case body =>
    rintro l pre x Bx W hl ⟨r, hr⟩ ⟨⟨hFW, hp⟩, hB⟩ hBx hX hlt
    have zW := hB.size
    have q0 := hFW.s.cell 0 rfl
    have r0 := hFW.r.cell 0 rfl
    have r1 := hFW.r.cell 1 rfl
    have r2 := hFW.r.cell 2 rfl
    have r3 := hFW.r.cell 3 rfl
    have r4 := hFW.r.cell 4 rfl
    have r5 := hFW.r.cell 5 rfl
    have r6 := hFW.r.cell 6 rfl
    have f0 := hFW.r.free 0
    have f1 := hFW.r.free 1
    have f2 := hFW.r.free 2
    have f3 := hFW.r.free 3
    have f4 := hFW.r.free 4
    have f5 := hFW.r.free 5
    have f6 := hFW.r.free 6
    have r7 := hFW.i.cell 0 rfl
    have f7 := hFW.i.free 0
    have HFW := Lib.hid hFW
    have HX := Lib.hid hp
    have HBW := Lib.hid hB
    clear hFW hp hB hlt
    obtain ⟨i, ⟨xs, xc, xk, xd, xn, xm, xp⟩⟩ := x
    dsimp only [encS] at hX
    have x0 : W.cell? ⟨Bx, 0, none⟩ = some (.int .i64 xs) := hX.cell 0 rfl
    have x1 : W.cell? ⟨Bx, 1, none⟩ = some (.bool xc) := hX.cell 1 rfl
    have x2 : W.cell? ⟨Bx, 2, none⟩ = some (.int .i64 xk) := hX.cell 2 rfl
    have x3 : W.cell? ⟨Bx, 3, none⟩ = some (.int .i64 xd) := hX.cell 3 rfl
    have x4 : W.cell? ⟨Bx, 4, none⟩ = some (.int .i64 xn) := hX.cell 4 rfl
    have x5 : W.cell? ⟨Bx, 5, none⟩ = some (.int .i64 xm) := hX.cell 5 rfl
    have x6 : W.cell? ⟨Bx, 6, none⟩ = some (.int .i64 xp) := hX.cell 6 rfl
    clear hX
    simp only [boxAct]
    by_cases h1 : xs ≤ s
    · have h1' : decide (xs ≤ s) = true := decide_eq_true h1
      have HB := Lib.hid h1'
      clear h1
      gi_wp2_with fail
      exact ⟨((put7_others W (w.heap.size + 1) ⟨xs, xc, xk, xd, xn, xm, xp⟩).trans (KeepsOthers.setCell _ _ _)).from _, ⟨by rw [List.getLastD_concat]; exact HFW.out.put ⟨xs, xc, xk, xd, xn, xm, xp⟩ true, rfl, pre, _, rfl, HX.out, HB.out⟩, below_setCells (put7_below HBW.out (by omega) ⟨xs, xc, xk, xd, xn, xm, xp⟩) (by omega) 0 (.bool true)⟩
    · have h1' : decide (xs ≤ s) = false := decide_eq_false h1
      have HN := Lib.hid h1'
      clear h1
      gi_wp2_with fail
      exact ⟨KeepsFrom.refl _ _, Below.refl _ _, ⟨HFW.out, fun y hy => by
        rcases List.mem_append.1 hy with hy | hy
        · exact HX.out y hy
        · obtain rfl := List.mem_singleton.1 hy
          exact HN.out⟩, HBW.out⟩
  case done =>
    rintro D ys W hD rfl ⟨⟨hFW, hp⟩, hB⟩ hK
    have r0 := hFW.r.cell 0 rfl
    have r1 := hFW.r.cell 1 rfl
    have r2 := hFW.r.cell 2 rfl
    have r3 := hFW.r.cell 3 rfl
    have r4 := hFW.r.cell 4 rfl
    have r5 := hFW.r.cell 5 rfl
    have r6 := hFW.r.cell 6 rfl
    have f0 := hFW.r.free 0
    have f1 := hFW.r.free 1
    have f2 := hFW.r.free 2
    have f3 := hFW.r.free 3
    have f4 := hFW.r.free 4
    have f5 := hFW.r.free 5
    have f6 := hFW.r.free 6
    have r7 := hFW.i.cell 0 rfl
    have f7 := hFW.i.free 0
    have HF2 := Lib.hid (hFW.put ⟨0, false, 0, 0, 0, 0, 0⟩ false)
    have HG : Hid (L.reverse.find? (fun v => decide (v.s ≤ s)) = none) := find_none fun x hx => by
      rw [← bkT_snd] at hx
      obtain ⟨y, hy, rfl⟩ := List.mem_map.1 hx
      exact hp y hy
    have hB2 := below_setCells (put7_below hB (show w.heap.size ≤ w.heap.size + 1 by omega) ⟨0, false, 0, 0, 0, 0, 0⟩) (show w.heap.size ≤ w.heap.size + 1 + 1 by omega) 0 (.bool false)
    have hK2 : ((put7 W (w.heap.size + 1) ⟨0, false, 0, 0, 0, 0, 0⟩).setCell ⟨w.heap.size + 1 + 1, 0, none⟩ (.bool false)).heap[D]? = some (.deferred (some [])) :=
      (((put7_others W (w.heap.size + 1) ⟨0, false, 0, 0, 0, 0, 0⟩).trans (KeepsOthers.setCell _ _ _)).same D _ hK rfl)
    have HK2 := Lib.hid hK2
    have HB2 := Lib.hid hB2
    clear hp hFW hB hK2 hB2
    go_wp2_with fail
    refine ⟨by simp, .inl ⟨_, _, rfl, run_takeDeferred HK2.out, ?_⟩⟩
    have r0 := cell_kept (HF2.out.r.cell 0 rfl) (grownBy_putObj' _ D (.deferred none)) (fun r e => by cases e; exact ⟨_, HK2.out, rfl⟩)
    have r1 := cell_kept (HF2.out.r.cell 1 rfl) (grownBy_putObj' _ D (.deferred none)) (fun r e => by cases e; exact ⟨_, HK2.out, rfl⟩)
    have r2 := cell_kept (HF2.out.r.cell 2 rfl) (grownBy_putObj' _ D (.deferred none)) (fun r e => by cases e; exact ⟨_, HK2.out, rfl⟩)
    have r3 := cell_kept (HF2.out.r.cell 3 rfl) (grownBy_putObj' _ D (.deferred none)) (fun r e => by cases e; exact ⟨_, HK2.out, rfl⟩)
    have r4 := cell_kept (HF2.out.r.cell 4 rfl) (grownBy_putObj' _ D (.deferred none)) (fun r e => by cases e; exact ⟨_, HK2.out, rfl⟩)
    have r5 := cell_kept (HF2.out.r.cell 5 rfl) (grownBy_putObj' _ D (.deferred none)) (fun r e => by cases e; exact ⟨_, HK2.out, rfl⟩)
    have r6 := cell_kept (HF2.out.r.cell 6 rfl) (grownBy_putObj' _ D (.deferred none)) (fun r e => by cases e; exact ⟨_, HK2.out, rfl⟩)
    have r7 := cell_kept (HF2.out.i.cell 0 rfl) (grownBy_putObj' _ D (.deferred none)) (fun r e => by cases e; exact ⟨_, HK2.out, rfl⟩)
    (simp only [put7] at r0 r1 r2 r3 r4 r5 r6 r7)
    refine ⟨.tuple #[.agg (encS ⟨0, false, 0, 0, 0, 0, 0⟩).toArray, .bool false], ?_, ?_, (HB1.out.trans HB2.out).trans (belowK_b (w := w) (Nat.le_refl _) _ D _ _ (by omega) HK2.out rfl rfl)⟩
    · simp [results, Try.results16, go_sem, r0, r1, r2, r3, r4, r5, r6, r7, encS]
    · rw [HG.out]
      rfl
  case stop =>
    rintro D c pre W hD hpre ⟨⟨hFW, rfl, q, x, rfl, hq, hx⟩, hB⟩ hK
    have HF2 := Lib.hid hFW
    have HG : Hid (L.reverse.find? (fun v => decide (v.s ≤ s)) = some x.2) := by
      obtain ⟨t, ht⟩ := hpre
      have h1 : L.reverse = q.map (·.2) ++ x.2 :: t.map (·.2) := by rw [← bkT_snd, ← ht]; simp
      show _ = _
      rw [h1]
      refine find_first (j := q.length) (fun y hy => ?_) (by simp) hx
      simp only [List.take_append_of_le_length (show q.length ≤ (q.map (·.2)).length by simp), List.mem_map] at hy
      rw [List.take_of_length_le (by simp)] at hy
      obtain ⟨z, hz, rfl⟩ := List.mem_map.1 hy
      exact hq z hz
    rw [List.getLastD_concat] at HF2
    obtain ⟨i, ⟨xs, xc, xk, xd, xn, xm, xp⟩⟩ := x
    have HB := Lib.hid hB
    clear hFW hq hx hpre hB
    gi_wp2_with fail
    refine ⟨by simp, .inl ⟨_, _, rfl, run_takeDeferred hK, ?_⟩⟩
    have r0 := cell_kept (HF2.out.r.cell 0 rfl) (grownBy_putObj' _ D (.deferred none)) (fun r e => by cases e; exact ⟨_, hK, rfl⟩)
    have r1 := cell_kept (HF2.out.r.cell 1 rfl) (grownBy_putObj' _ D (.deferred none)) (fun r e => by cases e; exact ⟨_, hK, rfl⟩)
    have r2 := cell_kept (HF2.out.r.cell 2 rfl) (grownBy_putObj' _ D (.deferred none)) (fun r e => by cases e; exact ⟨_, hK, rfl⟩)
    have r3 := cell_kept (HF2.out.r.cell 3 rfl) (grownBy_putObj' _ D (.deferred none)) (fun r e => by cases e; exact ⟨_, hK, rfl⟩)
    have r4 := cell_kept (HF2.out.r.cell 4 rfl) (grownBy_putObj' _ D (.deferred none)) (fun r e => by cases e; exact ⟨_, hK, rfl⟩)
    have r5 := cell_kept (HF2.out.r.cell 5 rfl) (grownBy_putObj' _ D (.deferred none)) (fun r e => by cases e; exact ⟨_, hK, rfl⟩)
    have r6 := cell_kept (HF2.out.r.cell 6 rfl) (grownBy_putObj' _ D (.deferred none)) (fun r e => by cases e; exact ⟨_, hK, rfl⟩)
    have r7 := cell_kept (HF2.out.i.cell 0 rfl) (grownBy_putObj' _ D (.deferred none)) (fun r e => by cases e; exact ⟨_, hK, rfl⟩)
    skip
    refine ⟨.tuple #[.agg (encS ⟨xs, xc, xk, xd, xn, xm, xp⟩).toArray, .bool true], ?_, ?_, (HB1.out.trans HB.out).trans (belowK_b (w := w) (Nat.le_refl _) _ D _ _ (by omega) hK rfl rfl)⟩
    · simp [results, Try.results16, go_sem, r0, r1, r2, r3, r4, r5, r6, r7, encS]
    · rw [HG.out]
      rfl

theorem lat_ok (base p bm : Nat) (sv : Value) (V : List Vs) (c : Bool) (key day s : Int) (w : World) (h : StAt w base p bm sv V) (hl : V.length ≤ 2513169434910) :
    Calls Try.prog 16 #[.pointer (some ⟨p, 0, none⟩), .bool c, .int .i64 key, .int .i64 day, .int .i64 s] w (LatEnd w (latP V (c, key, day) s)) :=
  lat_any _ _ c key day s w (fun W hW => of_ok base p bm sv V (c, key, day) W (h.after hW) hl) (by have := ofP_len V (c, key, day); omega)
theorem lat_nil (c : Bool) (key day s : Int) (w : World) :
    Calls Try.prog 16 #[.pointer none, .bool c, .int .i64 key, .int .i64 day, .int .i64 s] w (LatEnd w none) :=
  lat_any _ [] c key day s w (fun W hW => of_nil (c, key, day) W) (by simp)

end Go.Proofs.Ytkloijkfaooodaa
