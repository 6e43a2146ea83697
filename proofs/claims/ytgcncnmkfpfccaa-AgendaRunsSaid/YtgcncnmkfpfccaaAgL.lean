/- Package agenda: Put, Take. -/
import Derived.Test.YtgcncnmkfpfccaaAgK
namespace Go.Proofs.Ytgcncnmkfpfccaa
open Go.RowKit Go.Sort Go.Shelf
set_option linter.unusedVariables false
set_option linter.unusedSimpArgs false

def PutAgEnd (w : World) (base B bm : Nat) (sv : Value) (S : List It) (N d t : Int) (e : Ending) (w' : World) : Prop :=
  (dayB d = false ∧ e = .returned (.tuple #[.int .i64 0, .int .i64 18]) ∧ AgEnd w base B bm sv S N w') ∨ (dayB d = true ∧ e = .returned (.tuple #[.int .i64 N, .int .i64 0]) ∧ AgEnd w base B bm sv (putK It.ky S ⟨d, N, t⟩) (N + 1) w')
theorem put_new {S : List It} {N d t : Int} (h : Rising It.ky S) (hn : ∀ x ∈ S, 0 ≤ x.n ∧ x.n < N) : (putK It.ky S ⟨d, N, t⟩).Perm (⟨d, N, t⟩ :: S) := putK_new h fun z hz e => by
  have := (hn z hz).2
  simp [It.ky] at e
  omega
theorem ag_put {w w1 w2 : World} {base B bm : Nat} {sv : Value} {S L : List It} {N d t : Int} (h : AgAt w base B bm sv S N) (hp : L.Perm S) (h1 : Turn (PAt.bs B bm sv) w w1) (hE : HPushEnd w1 base B bm sv (L ++ [⟨d, N, t⟩]) (N + 1) (.returned (.tuple #[])) w2) : AgEnd w base B bm sv (putK It.ky S ⟨d, N, t⟩) (N + 1) w2 := by
  obtain ⟨sv', L', _, hA, ht, hs, hp', hG⟩ := hE
  have hpn := put_new (d := d) (t := t) h.ra h.no
  refine ⟨⟨sv', ⟨⟨L', hA, hG, hp'.trans ?_⟩, putK_rising h.ra, fun x hx => ?_, by have := h.n0; omega⟩, fun g hg => (hs g hg).imp id (fun e => Nat.le_trans h1.size e)⟩, h1.trans ht⟩
  · exact ((List.perm_append_singleton _ _).trans (hp.cons _)).trans hpn.symm
  · rcases List.mem_cons.1 (hpn.mem_iff.1 hx) with rfl | hx
    · exact ⟨h.n0, by dsimp only; omega⟩
    · have := h.no x hx
      exact ⟨this.1, by omega⟩
set_option maxHeartbeats 2000000 in
theorem put_ok (base B bm : Nat) (sv : Value) (S : List It) (N d t : Int) (hN : N ≤ 1000000) (hl : S.length ≤ 90000) (w : World) (hbase : base ≤ w.heap.size) (h : AgAt w base B bm sv S N) :
    Calls Try.prog 24 #[.pointer (some ⟨B, 0, none⟩), .int .i64 d, .int .i64 t] w (PutAgEnd w base B bm sv S N d t) := by
  have hN0 := h.n0
  have H := Lib.hid h
  obtain ⟨L, hP, hG, hp⟩ := h.ex
  have c2 : w.cell? ⟨B, 2, none⟩ = some (.int .i64 N) := hP.blk.cell 2 rfl
  have f2 := hP.blk.free 2
  have wN : IntKind.i64.wrap (N + 1) = N + 1 := IntWalk.i64_in _ (by omega)
  have hg1 : w.grownBy (w.setCell ⟨B, 2, none⟩ (.int .i64 (N + 1))) (some B) := grown_setCell _ _ _ _
  have hP1 : PAt (w.setCell ⟨B, 2, none⟩ (.int .i64 (N + 1))) base B bm sv L (N + 1) :=
    ⟨hP.blk.set 2 _, own_kept hP.own hg1 (fun g hg e => (hP.ne.2 g hg).1 (by simpa using e.symm)), hP.map.kept hg1 (by simpa using hP.ne.1), hP.hB, hP.hm⟩
  have HP1 := Lib.hid hP1
  have HG := Lib.hid hG
  have HP := Lib.hid hp
  have HT1 : Hid (Turn (PAt.bs B bm sv) w (w.setCell ⟨B, 2, none⟩ (.int .i64 (N + 1)))) := Turn.of_grown hg1 (by simp [PAt.bs])
  have HNs : Hid (Nos (L ++ [⟨d, N, t⟩])) := by
    show List.Nodup _
    rw [List.map_append, List.map_singleton]
    refine List.nodup_append.2 ⟨hP.nos, by simp, fun a ha b hb e => ?_⟩
    obtain ⟨x, hx, rfl⟩ := List.mem_map.1 ha
    have := (h.no x (hp.mem_iff.1 hx)).2
    simp at hb
    omega
  have hlL : L.length ≤ 90000 := by rw [hp.length_eq]; exact hl
  clear h hP hG hp hg1 hP1
  cases hd : dayB d with
  | false =>
    go_enter Try.func24, Try.ntmps24
    go_wp2_with fail
    with_reducible refine (right_ok d w).mono ?_
    rintro e w1 ⟨rfl, hw⟩
    obtain rfl : w = w1 := hw.symm
    rw [hd]
    go_wp2_with fail
    go_ret2
    exact Or.inl ⟨hd, rfl, AgEnd.same H.out (Below.refl _ _)⟩
  | true =>
    go_enter Try.func24, Try.ntmps24
    go_wp2_with fail
    with_reducible refine (right_ok d w).mono ?_
    rintro e w1 ⟨rfl, hw⟩
    obtain rfl : w = w1 := hw.symm
    rw [hd]
    go_wp2_with fail
    have hC : Calls Try.prog 36 #[IF B, .iface 31 (.agg #[.int .i64 d, .int .i64 N, .int .i64 t])] (w.setCell ⟨B, 2, none⟩ (.int .i64 (N + 1))) (HPushEnd (w.setCell ⟨B, 2, none⟩ (.int .i64 (N + 1))) base B bm sv (L ++ [⟨d, N, t⟩]) (N + 1)) :=
      hpush_ok base B bm sv L (N + 1) ⟨d, N, t⟩ HNs.out (wf_of (by dsimp only; omega) (by dsimp only; omega)) (by omega) _ (by simpa using hbase) HP1.out HG.out
    with_reducible refine hC.mono ?_
    rintro e w2 hE
    have HE := hE
    obtain ⟨sv', L', rfl, _⟩ := hE
    have HFin := Lib.hid (ag_put H.out HP.out HT1.out HE)
    clear hC HE
    go_wp2_with fail
    go_ret2
    exact Or.inr ⟨hd, rfl, HFin.out⟩

theorem AgEnd.wrap {w w2 w3 w4 : World} {base B bm R : Nat} {sv : Value} {S : List It} {N : Int} (h2 : Below w.heap.size w w2) (hE : AgEnd w2 base B bm sv S N w3) (hR : w.heap.size ≤ R) (hR2 : R < w2.heap.size) (hbs : ∀ b ∈ PAt.bs B bm sv, base ≤ b ∧ b < w.heap.size) (ht : Turn [R] w3 w4) : AgEnd w base B bm sv S N w4 := by
  obtain ⟨sv', hA, hs⟩ := hE.ex
  have hz := h2.size
  refine ⟨⟨sv', hA.turn ht (fun b hb hm => ?_), fun g hg => (hs g hg).imp id (fun e => by omega)⟩, ((Turn.of_below h2).trans hE.turn).over ht (fun b hb => Or.inr (by rw [List.mem_singleton.1 hb]; exact hR))⟩
  have e := List.mem_singleton.1 hm
  subst e
  rcases bs_sub hs b hb with h1 | h1
  · have := (hbs b h1).2
    omega
  · omega
theorem AgEnd.from {w w2 w3 : World} {base B bm : Nat} {sv : Value} {S : List It} {N : Int} (h2 : Below w.heap.size w w2) (hE : AgEnd w2 base B bm sv S N w3) : AgEnd w base B bm sv S N w3 := by
  obtain ⟨sv', hA, hs⟩ := hE.ex
  have hz := h2.size
  exact ⟨⟨sv', hA, fun g hg => (hs g hg).imp id (fun e => by omega)⟩, (Turn.of_below h2).trans hE.turn⟩
/-- What a take takes. -/
def takeO (S : List It) (y : Int) : Option It := match S with | [] => none | x :: _ => if y < x.d then none else some x
def takeS (S : List It) (y : Int) : List It := match S with | [] => [] | x :: S' => if y < x.d then x :: S' else S'
def itV (o : Option It) : Value := .tuple #[.agg (encI (o.getD default)).toArray, .bool o.isSome]
def TakeEnd (w : World) (base B bm : Nat) (sv : Value) (S : List It) (N y : Int) (e : Ending) (w' : World) : Prop := e = .returned (itV (takeO S y)) ∧ AgEnd w base B bm sv (takeS S y) N w'
theorem ag_pop {w w1 w2 : World} {base B bm i : Nat} {sv : Value} {S S' L : List It} {N : Int} {x : It} {e : Ending} (h : AgAt w base B bm sv S N) (hp : L.Perm S) (hS : S.Perm (x :: S')) (hr : Rising It.ky S') (h1 : Turn (PAt.bs B bm sv) w w1) (hE : HPopEnd w1 base B bm sv L N i x e w2) : AgEnd w base B bm sv S' N w2 := by
  obtain ⟨sv', L', _, hA, ht, hs, hp', hG⟩ := hE
  have hL : L'.Perm S' := by
    have h2 := (((List.perm_append_singleton x L').symm.trans hp').trans hp).trans hS
    exact (List.perm_cons x).1 h2
  exact ⟨⟨sv', ⟨⟨L', hA, hG, hL⟩, hr, fun z hz => h.no z (hS.mem_iff.2 (List.mem_cons_of_mem _ hz)), h.n0⟩, fun g hg => Or.inl (by rw [← hs]; exact hg)⟩, h1.trans ht⟩
set_option maxHeartbeats 4000000 in
set_option maxRecDepth 100000 in
theorem take_ok (base B bm : Nat) (sv : Value) (S : List It) (N y : Int) (hl : S.length ≤ 90000) (w : World) (h : AgAt w base B bm sv S N) :
    Calls Try.prog 20 #[.pointer (some ⟨B, 0, none⟩), .int .i64 y] w (TakeEnd w base B bm sv S N y) := by
  have H := Lib.hid h
  obtain ⟨w0, hw0⟩ : ∃ W, w.alloc (.cells #[.int .i64 0, .int .i64 0, .int .i64 0] 31) = W := ⟨_, rfl⟩
  have hb0 : Below w.heap.size w w0 := by rw [← hw0]; exact (Below.refl _ _).alloc (Nat.le_refl _) _
  have KR : Hid (Blk w0 w.heap.size #[.int .i64 0, .int .i64 0, .int .i64 0] 31) := by rw [← hw0]; exact Blk.new _ _ _
  have H0 := Lib.hid (h.after hb0)
  have HW0 := Lib.hid hw0
  have HB0 := Lib.hid hb0
  have HBs := Lib.hid h.bs_lt
  clear hw0 hb0 h
  go_enter Try.func20, Try.ntmps20
  go_wp2_with fail
  rw [HW0.out]
  with_reducible refine (next_ok base B bm sv S N w0 H0.out).mono ?_
  rintro e w1 ⟨rfl, hb1⟩
  have HB1 := Lib.hid (HB0.out.trans (hb1.mono HB0.out.size))
  have H1 := Lib.hid (H0.out.after hb1)
  have KR1 := Lib.hid (KR.out.after hb1)
  clear hb1
  cases S with
  | nil =>
    dsimp only [nextV]
    obtain ⟨w2, hw2⟩ : ∃ W, w1.alloc (.cells #[.int .i64 0, .int .i64 0, .int .i64 0] 31) = W := ⟨_, rfl⟩
    have hb2 : Below w1.heap.size w1 w2 := by rw [← hw2]; exact (Below.refl _ _).alloc (Nat.le_refl _) _
    have k2 := KR1.out.after hb2
    have r0 : w2.cell? ⟨w.heap.size, 0, none⟩ = some (.int .i64 0) := k2.cell 0 rfl
    have r1 : w2.cell? ⟨w.heap.size, 1, none⟩ = some (.int .i64 0) := k2.cell 1 rfl
    have r2 : w2.cell? ⟨w.heap.size, 2, none⟩ = some (.int .i64 0) := k2.cell 2 rfl
    have f0 := k2.free 0
    have f1 := k2.free 1
    have f2 := k2.free 2
    obtain ⟨w4, hw4⟩ : ∃ W, ((w2.setCell ⟨w.heap.size, 0, none⟩ (.int .i64 0)).setCell ⟨w.heap.size, 1, none⟩ (.int .i64 0)).setCell ⟨w.heap.size, 2, none⟩ (.int .i64 0) = W := ⟨_, rfl⟩
    have ht4 : Turn [w.heap.size] w2 w4 := by rw [← hw4]; exact ((Turn.of_grown (grown_setCell _ _ _ _) (by simp)).trans (Turn.of_grown (grown_setCell _ _ _ _) (by simp))).trans (Turn.of_grown (grown_setCell _ _ _ _) (by simp))
    have k4 : Blk w4 w.heap.size #[.int .i64 0, .int .i64 0, .int .i64 0] 31 := by rw [← hw4]; exact ((k2.set 0 _).set 1 _).set 2 _
    have HFin : Hid (TakeEnd w base B bm sv [] N y (.returned (.tuple #[.agg #[.int .i64 0, .int .i64 0, .int .i64 0], .bool false])) w4) := by
      refine ⟨by rw [(show takeO [] y = none from rfl)]; rfl, ?_⟩
      rw [(show takeS [] y = [] from rfl)]
      exact AgEnd.wrap (HB1.out.trans (hb2.mono HB1.out.size)) (AgEnd.same (H1.out.after hb2) (Below.refl _ _)) (Nat.le_refl _) k2.lt HBs.out ht4
    have HW2 := Lib.hid hw2
    have HW4 := Lib.hid hw4
    rw [← hw2] at r0 r1 r2 f0 f1 f2
    clear hw2 hb2 k2 hw4 ht4
    go_wp2_with fail
    rw [HW2.out, HW4.out]
    have r0 := k4.cell 0 (v := .int .i64 0) rfl
    have r1 := k4.cell 1 (v := .int .i64 0) rfl
    have r2 := k4.cell 2 (v := .int .i64 0) rfl
    refine bodyPost_ret (v := .tuple #[.agg #[.int .i64 0, .int .i64 0, .int .i64 0], .bool false]) (by simp [results, Try.results20, go_sem, r0, r1, r2]) rfl ?_
    exact HFin.out
  | cons x S =>
    obtain ⟨xd, xn, xt⟩ := x
    dsimp only [nextV, encI]
    obtain ⟨w2, hw2⟩ : ∃ W, w1.alloc (.cells #[.int .i64 xd, .int .i64 xn, .int .i64 xt] 31) = W := ⟨_, rfl⟩
    have hb2 : Below w1.heap.size w1 w2 := by rw [← hw2]; exact (Below.refl _ _).alloc (Nat.le_refl _) _
    have k2 := KR1.out.after hb2
    by_cases hy : y < xd
    · have e1 : decide (y < xd) = true := decide_eq_true hy
      have hS : takeS (⟨xd, xn, xt⟩ :: S) y = ⟨xd, xn, xt⟩ :: S := if_pos hy
      have hO : takeO (⟨xd, xn, xt⟩ :: S) y = none := if_pos hy
      have r0 : w2.cell? ⟨w.heap.size, 0, none⟩ = some (.int .i64 0) := k2.cell 0 rfl
      have r1 : w2.cell? ⟨w.heap.size, 1, none⟩ = some (.int .i64 0) := k2.cell 1 rfl
      have r2 : w2.cell? ⟨w.heap.size, 2, none⟩ = some (.int .i64 0) := k2.cell 2 rfl
      have f0 := k2.free 0
      have f1 := k2.free 1
      have f2 := k2.free 2
      obtain ⟨w4, hw4⟩ : ∃ W, ((w2.setCell ⟨w.heap.size, 0, none⟩ (.int .i64 0)).setCell ⟨w.heap.size, 1, none⟩ (.int .i64 0)).setCell ⟨w.heap.size, 2, none⟩ (.int .i64 0) = W := ⟨_, rfl⟩
      have ht4 : Turn [w.heap.size] w2 w4 := by rw [← hw4]; exact ((Turn.of_grown (grown_setCell _ _ _ _) (by simp)).trans (Turn.of_grown (grown_setCell _ _ _ _) (by simp))).trans (Turn.of_grown (grown_setCell _ _ _ _) (by simp))
      have k4 : Blk w4 w.heap.size #[.int .i64 0, .int .i64 0, .int .i64 0] 31 := by rw [← hw4]; exact ((k2.set 0 _).set 1 _).set 2 _
      have HFin : Hid (TakeEnd w base B bm sv (⟨xd, xn, xt⟩ :: S) N y (.returned (.tuple #[.agg #[.int .i64 0, .int .i64 0, .int .i64 0], .bool false])) w4) := by
        refine ⟨by rw [hO]; rfl, ?_⟩
        rw [hS]
        exact AgEnd.wrap (HB1.out.trans (hb2.mono HB1.out.size)) (AgEnd.same (H1.out.after hb2) (Below.refl _ _)) (Nat.le_refl _) k2.lt HBs.out ht4
      have HW2 := Lib.hid hw2
      have HW4 := Lib.hid hw4
      rw [← hw2] at r0 r1 r2 f0 f1 f2
      clear hw2 hb2 k2 hw4 ht4
      go_wp2_with fail
      rw [HW2.out, HW4.out]
      have r0 := k4.cell 0 (v := .int .i64 0) rfl
      have r1 := k4.cell 1 (v := .int .i64 0) rfl
      have r2 := k4.cell 2 (v := .int .i64 0) rfl
      refine bodyPost_ret (v := .tuple #[.agg #[.int .i64 0, .int .i64 0, .int .i64 0], .bool false]) (by simp [results, Try.results20, go_sem, r0, r1, r2]) rfl ?_
      exact HFin.out
    · have e1 : decide (y < xd) = false := decide_eq_false hy
      have HS : Hid (takeS (⟨xd, xn, xt⟩ :: S) y = S) := if_neg hy
      have HO : Hid (takeO (⟨xd, xn, xt⟩ :: S) y = some ⟨xd, xn, xt⟩) := if_neg hy
      have H2 := Lib.hid (H1.out.after hb2)
      have HB2 := Lib.hid (HB1.out.trans (hb2.mono HB1.out.size))
      have HW2 := Lib.hid hw2
      have K2 := Lib.hid k2
      clear hw2 hb2 k2 hy
      go_wp2_with fail
      rw [HW2.out]
      obtain ⟨L, hP, hG, hp⟩ := H2.out.ex
      have hx := heap_head hG hp H2.out.ra
      with_reducible refine (hpop_ok base B bm sv L N ⟨xd, xn, xt⟩ hx (by rw [hp.length_eq]; omega) w2 hP hG).mono ?_
      rintro e w3 hE
      have HE := Lib.hid (ag_pop H2.out hp (List.Perm.refl _) (List.pairwise_cons.1 H2.out.ra).2 (Turn.of_below (Below.refl _ _)) hE)
      obtain ⟨sv', L', rfl, _⟩ := hE
      have k3 := HE.out.turn.blk K2.out (fun hb => by have := (HBs.out _ hb).2; omega)
      have hta := fun w => assertIt xd xn xt w
      dsimp only [encI]
      have r0 : w3.cell? ⟨w.heap.size, 0, none⟩ = some (.int .i64 0) := k3.cell 0 rfl
      have r1 : w3.cell? ⟨w.heap.size, 1, none⟩ = some (.int .i64 0) := k3.cell 1 rfl
      have r2 : w3.cell? ⟨w.heap.size, 2, none⟩ = some (.int .i64 0) := k3.cell 2 rfl
      have f0 := k3.free 0
      have f1 := k3.free 1
      have f2 := k3.free 2
      obtain ⟨w4, hw4⟩ : ∃ W, ((w3.setCell ⟨w.heap.size, 0, none⟩ (.int .i64 xd)).setCell ⟨w.heap.size, 1, none⟩ (.int .i64 xn)).setCell ⟨w.heap.size, 2, none⟩ (.int .i64 xt) = W := ⟨_, rfl⟩
      have ht4 : Turn [w.heap.size] w3 w4 := by rw [← hw4]; exact ((Turn.of_grown (grown_setCell _ _ _ _) (by simp)).trans (Turn.of_grown (grown_setCell _ _ _ _) (by simp))).trans (Turn.of_grown (grown_setCell _ _ _ _) (by simp))
      have k4 : Blk w4 w.heap.size #[.int .i64 xd, .int .i64 xn, .int .i64 xt] 31 := by rw [← hw4]; exact ((k3.set 0 _).set 1 _).set 2 _
      have HFin : Hid (TakeEnd w base B bm sv (⟨xd, xn, xt⟩ :: S) N y (.returned (.tuple #[.agg #[.int .i64 xd, .int .i64 xn, .int .i64 xt], .bool true])) w4) := by
        refine ⟨by rw [HO.out]; rfl, ?_⟩
        rw [HS.out]
        exact AgEnd.wrap HB2.out HE.out (Nat.le_refl _) K2.out.lt HBs.out ht4
      have HW4 := Lib.hid hw4
      clear hP hG hp hx k3 ht4 hw4
      go_wp2_with fail
      rw [HW4.out]
      have r0 := k4.cell 0 (v := .int .i64 xd) rfl
      have r1 := k4.cell 1 (v := .int .i64 xn) rfl
      have r2 := k4.cell 2 (v := .int .i64 xt) rfl
      refine bodyPost_ret (v := .tuple #[.agg #[.int .i64 xd, .int .i64 xn, .int .i64 xt], .bool true]) (by simp [results, Try.results20, go_sem, r0, r1, r2]) rfl ?_
      exact HFin.out

end Go.Proofs.Ytgcncnmkfpfccaa
