/- The document's store: Put. -/
import Derived.Test.YtkloijkfaooodaaBitR
import Derived.Deep.AppendLies
namespace Go.Proofs.Ytkloijkfaooodaa
open Go.RowKit Go.Shelf
set_option linter.unusedVariables false
set_option linter.unusedSimpArgs false
attribute [local go_sem ↓] Go.wp_at_zero Go.wp_at_succ

theorem infoRv : (Try.prog.info? 56).map (fun i => (i.zero, i.size, i.bytes)) = some (some (.agg #[.int .i64 0, .int .i64 0, .int .i64 0, .int .i64 0, .int .i64 0, .int .i64 0, .int .i64 0]), 7, 56) := by kernel_rfl
def PutREnd (w : World) (base p : Nat) (sv : Value) (V : List Vs) (v : Vs) (e : Ending) (w' : World) : Prop :=
  ∃ (i : Int) (sv2 : Value), e = .returned (.tuple #[.int .i64 i, .int .i64 (putE V v)]) ∧ (putE V v = 0 → latI V v.pl v.s i) ∧ (putE V v ≠ 0 → i = -1) ∧ RfAt w' base p sv2 (putV V v) ∧ Turn (RfAt.bs p sv) w w' ∧ ∀ g, sv2.ownBlock = some g → sv.ownBlock = some g ∨ w.heap.size ≤ g
theorem putr_err {w w' : World} {base p : Nat} {sv : Value} {V : List Vs} {v : Vs} {E : Int} (hE : putE V v = E) (hn : E ≠ 0) (h : RfAt w base p sv V) (hb : Below w.heap.size w w') : PutREnd w base p sv V v (.returned (.tuple #[.int .i64 (-1), .int .i64 E])) w' := by
  refine ⟨-1, sv, by rw [hE], fun h => absurd (hE.symm.trans h) hn, fun _ => rfl, ?_, Turn.of_below hb, fun g hg => Or.inl hg⟩
  unfold putV
  rw [if_neg (by rw [hE]; exact hn)]
  exact h.after hb
theorem latI_lat {V : List Vs} {q : PK} {s i : Int} (h : latI V q s i) : (i = -1 ∧ latP V q s = none) ∨ ∃ (n : Nat) (v : Vs), i = n ∧ n < V.length ∧ V[n]? = some v ∧ latP V q s = some v := by
  rcases h with ⟨rfl, h⟩ | ⟨n, v, rfl, h1, h2, h3, h4⟩
  · exact Or.inl ⟨rfl, latI_none h⟩
  · exact Or.inr ⟨n, v, rfl, (List.getElem?_eq_some_iff.1 h1).1, h1, latI_some h1 h2 h3 h4⟩

set_option maxHeartbeats 4000000 in
set_option maxRecDepth 100000 in
theorem rput_ok (base p : Nat) (sv : Value) (V : List Vs) (v : Vs) (w : World) (hbase : base ≤ w.heap.size) (h : RfAt w base p sv V) (hl : V.length ≤ 2513169434900) :
    Calls Try.prog 22 #[.pointer (some ⟨p, 0, none⟩), .agg (encR v).toArray] w (PutREnd w base p sv V v) := by
  obtain ⟨v0, hv, hv0, hv1, hv2⟩ := info_parts infoRv
  have H := Lib.hid h
  obtain ⟨a, cap, rfl, _, _, _, _, hR⟩ := owned_recs (enc := encR) (size := 7) (fun _ => rfl) h.own rfl
  have HR := Lib.hid hR
  have hpl := h.blk.lt
  clear h hR
  obtain ⟨E, hE⟩ : ∃ E, putE V v = E := ⟨_, rfl⟩
  obtain ⟨q, hq⟩ : ∃ q, v.pl = q := ⟨_, rfl⟩
  have HE := Lib.hid hE
  have HQ := Lib.hid hq
  obtain ⟨xs, xc, xk, xd, xn, xm, xp⟩ := v
  obtain ⟨xz, hxz⟩ : ∃ z, kindV xc = z := ⟨_, rfl⟩
  have hVe : encR ⟨xs, xc, xk, xd, xn, xm, xp⟩ = [.int .i64 xs, .int .i64 xz, .int .i64 xk, .int .i64 xd, .int .i64 xn, .int .i64 xm, .int .i64 xp] := by rw [← hxz]; rfl
  rw [hVe]
  have HVe := Lib.hid hVe
  have HXZ := Lib.hid hxz
  clear hE hq hVe hxz
  obtain ⟨w0, hw0⟩ : ∃ W, w.alloc (.cells #[.int .i64 xs, .int .i64 xz, .int .i64 xk, .int .i64 xd, .int .i64 xn, .int .i64 xm, .int .i64 xp] 56) = W := ⟨_, rfl⟩
  have hb0 : Below w.heap.size w w0 := by rw [← hw0]; exact (Below.refl _ _).alloc (Nat.le_refl _) _
  have hK0 : Blk w0 w.heap.size #[.int .i64 xs, .int .i64 xz, .int .i64 xk, .int .i64 xd, .int .i64 xn, .int .i64 xm, .int .i64 xp] 56 := by rw [← hw0]; exact Blk.new _ _ _
  have z0 : w0.heap.size = w.heap.size + 1 := by rw [← hw0]; simp
  have HB0 := Lib.hid hb0
  have HK := Lib.hid hK0
  have H0 := Lib.hid (H.out.after hb0)
  have HW0 := Lib.hid hw0
  have x0 : w0.cell? ⟨w.heap.size, 0, none⟩ = some (.int .i64 xs) := hK0.cell 0 rfl
  have x1 : w0.cell? ⟨w.heap.size, 1, none⟩ = some (.int .i64 xz) := hK0.cell 1 rfl
  have x2 : w0.cell? ⟨w.heap.size, 2, none⟩ = some (.int .i64 xk) := hK0.cell 2 rfl
  have x3 : w0.cell? ⟨w.heap.size, 3, none⟩ = some (.int .i64 xd) := hK0.cell 3 rfl
  have HX := Lib.hid hK0
  rw [← hw0] at x0 x1 x2 x3
  obtain ⟨S, hS⟩ : ∃ S, seqV V = S := ⟨_, rfl⟩
  have HSq : Hid (∀ n, Calls Try.prog 41 #[.pointer (some ⟨p, 0, none⟩)] (w0.drewN n) fun e w' => e = .returned (.int .i64 S) ∧ ∃ m, w' = (w0.drewN n).drewN m) := fun n => by
    have := rseq_ok base p _ V (w0.drewN n) (H0.out.after (below_draws _ n)) (by omega)
    rw [hS] at this
    exact this
  have HS := Lib.hid hS
  rw [← hw0] at HSq
  clear hw0 hb0 hK0 hS
  by_cases h1 : xs < 1
  · have d1 : decide (xs < 1) = true := decide_eq_true h1
    have hE24 : E = 24 := by
      rw [← HE.out]
      unfold putE
      rw [if_pos (Or.inl h1)]
    clear h1
    subst hE24
    go_enter Try.func22, Try.ntmps22
    go_wp2_with (go_quiet (fail))
    go_ret2
    rw [HW0.out]
    exact putr_err HE.out (by decide) H.out (HB0.out.trans ((below_draws _ _).mono HB0.out.size))
  · have d1 : decide (xs < 1) = false := decide_eq_false h1
    by_cases h2 : xs < S
    · have d2 : decide (xs < S) = true := decide_eq_true h2
      have hE24 : E = 24 := by
        rw [← HE.out]
        unfold putE
        rw [HS.out, if_pos (Or.inr h2)]
      clear h1 h2
      subst hE24
      go_enter Try.func22, Try.ntmps22
      go_wp2_with (go_quiet (with_reducible exact Calls.quiet_of (HSq.out _)))
      go_ret2
      rw [HW0.out]
      exact putr_err HE.out (by decide) H.out (HB0.out.trans ((below_draws _ _).mono HB0.out.size))
    · have d2 : decide (xs < S) = false := decide_eq_false h2
      have hE2 : E = match latP V q xs with | none => 0 | some o => if o.s = xs then 17 else 0 := by
        rw [← HE.out]
        unfold putE
        rw [HS.out, if_neg (by rintro (h | h); exact h1 h; exact h2 h), ← HQ.out]
        rfl
      have HE2 := Lib.hid hE2
      clear h1 h2 hE2
      go_enter Try.func22, Try.ntmps22
      go_wp2_with (go_quiet (with_reducible exact Calls.quiet_of (HSq.out _)))
      rw [HW0.out]
      obtain ⟨w1, hw1⟩ : ∃ W, w0.drewN nq = W := ⟨_, rfl⟩
      have hb1 : Below w0.heap.size w0 w1 := by rw [← hw1]; exact below_draws _ _
      rw [hw1]
      have H1 := Lib.hid (H0.out.after hb1)
      have HL := Lib.hid (rlat_ok base p _ V xc xk xd xs w1 H1.out (by omega))
      rw [HXZ.out] at HL
      clear hw1 x0 x1 x2 x3
      with_reducible refine HL.out.mono ?_
      rintro e w2 ⟨i, rfl, hi, hb2⟩
      have hb02 := hb1.trans (hb2.mono hb1.size)
      have HB02 := Lib.hid hb02
      have h2blk := HX.out.after hb02
      have x0 : w2.cell? ⟨w.heap.size, 0, none⟩ = some (.int .i64 xs) := h2blk.cell 0 rfl
      have H2 := Lib.hid (H0.out.after hb02)
      have c0 : w2.cell? ⟨p, 0, none⟩ = some (.slice a V.length cap) := H2.out.blk.cell 0 rfl
      have hq : (xc, xk, xd) = q := HQ.out
      rw [hq] at hi
      have HI := Lib.hid hi
      clear hb1 hb2 hb02 h2blk H1 HL hq
      rcases latI_lat hi with ⟨rfl, hn⟩ | ⟨n, u, rfl, hn1, hn2, hn3⟩
      · have HPE : Hid (putE V ⟨xs, xc, xk, xd, xn, xm, xp⟩ = 0) := by
          show _ = _
          rw [HE.out, HE2.out, hn]
        have HLI : Hid (latI V (Vs.pl ⟨xs, xc, xk, xd, xn, xm, xp⟩) xs (-1)) := by
          show latI _ _ _ _
          rw [HQ.out]
          exact HI.out
        clear hi hn
        go_wp2_with (go_quiet (fail))
        obtain ⟨w6, hw6⟩ : ∃ W, w2.drewN nq = W := ⟨_, rfl⟩
        have hb06 : Below w0.heap.size w0 w6 := by rw [← hw6]; exact HB02.out.trans ((below_draws _ _).mono HB02.out.size)
        rw [hw6]
        clear hw6
        have hb6 : Below w.heap.size w w6 := HB0.out.trans (hb06.mono HB0.out.size)
        have H6 := Lib.hid (H.out.after hb6)
        have HB06 := Lib.hid hb06
        have hK6 : Blk w6 w.heap.size #[.int .i64 xs, .int .i64 xz, .int .i64 xk, .int .i64 xd, .int .i64 xn, .int .i64 xm, .int .i64 xp] 56 := HK.out.after hb06
        have z6 := hb6.size
        have HB6 := Lib.hid hb6
        have hC : ∀ W, Below w6.heap.size w6 W → W.cell? ⟨p, 0, none⟩ = some (.slice a V.length cap) ∧ W.cell? ⟨w.heap.size, 0, none⟩ = some (.int .i64 xs) ∧ W.cell? ⟨w.heap.size, 1, none⟩ = some (.int .i64 xz) ∧ W.cell? ⟨w.heap.size, 2, none⟩ = some (.int .i64 xk) ∧ W.cell? ⟨w.heap.size, 3, none⟩ = some (.int .i64 xd) ∧ W.cell? ⟨w.heap.size, 4, none⟩ = some (.int .i64 xn) ∧ W.cell? ⟨w.heap.size, 5, none⟩ = some (.int .i64 xm) ∧ W.cell? ⟨w.heap.size, 6, none⟩ = some (.int .i64 xp) := fun W hW => ⟨below_cell hW (H6.out.blk.cell 0 rfl), below_cell hW (hK6.cell 0 rfl), below_cell hW (hK6.cell 1 rfl), below_cell hW (hK6.cell 2 rfl), below_cell hW (hK6.cell 3 rfl), below_cell hW (hK6.cell 4 rfl), below_cell hW (hK6.cell 5 rfl), below_cell hW (hK6.cell 6 rfl)⟩
        have HC := Lib.hid hC
        have bd : Below w6.heap.size w6 w6.drew := (Below.refl _ _).drew
        clear hC hK6 hb6 hb06
        refine wp_region_final (fun W => W.cell? ⟨p, 0, none⟩ = some (.slice a V.length cap) ∧ W.cell? ⟨w.heap.size, 0, none⟩ = some (.int .i64 xs) ∧ W.cell? ⟨w.heap.size, 1, none⟩ = some (.int .i64 xz) ∧ W.cell? ⟨w.heap.size, 2, none⟩ = some (.int .i64 xk) ∧ W.cell? ⟨w.heap.size, 3, none⟩ = some (.int .i64 xd) ∧ W.cell? ⟨w.heap.size, 4, none⟩ = some (.int .i64 xn) ∧ W.cell? ⟨w.heap.size, 5, none⟩ = some (.int .i64 xm) ∧ W.cell? ⟨w.heap.size, 6, none⟩ = some (.int .i64 xp)) 10 (by kernel_rfl) ?_
        have hSd := HC.out _ bd
        obtain ⟨wq, hwq⟩ : ∃ W, w6.drew = W := ⟨_, rfl⟩
        rw [hwq] at bd hSd ⊢
        clear hwq
        refine wpAnyF_takesI (i := 0) (v := ?_) rfl (by kernel_rfl) (fun _ _ _ h => h) (by rfl) hSd ?_ ?_
        rotate_left 1
        · intro w hSw
          obtain ⟨s1, s2, s3, s4, s5, s6, s7, s8⟩ := hSw
          go_simp
          try with_reducible rfl
        try simp only [Act.put, List.setIfInBounds_toArray, List.set_cons_zero, List.set_cons_succ]
        refine wpAnyF_takesI (i := 1) (v := ?_) rfl (by kernel_rfl) (fun _ _ _ h => h) (by rfl) hSd ?_ ?_
        rotate_left 1
        · intro w hSw
          obtain ⟨s1, s2, s3, s4, s5, s6, s7, s8⟩ := hSw
          go_simp
          try with_reducible rfl
        try simp only [Act.put, List.setIfInBounds_toArray, List.set_cons_zero, List.set_cons_succ]
        refine wpAnyF_takesI (i := 2) (v := ?_) rfl (by kernel_rfl) (fun _ _ _ h => h) (by rfl) hSd ?_ ?_
        rotate_left 1
        · intro w hSw
          obtain ⟨s1, s2, s3, s4, s5, s6, s7, s8⟩ := hSw
          go_simp
          try with_reducible rfl
        try simp only [Act.put, List.setIfInBounds_toArray, List.set_cons_zero, List.set_cons_succ]
        refine wpAnyF_takesI (i := 3) (v := ?_) rfl (by kernel_rfl) (fun _ _ _ h => h) (by rfl) hSd ?_ ?_
        rotate_left 1
        · intro w hSw
          obtain ⟨s1, s2, s3, s4, s5, s6, s7, s8⟩ := hSw
          go_simp
          try with_reducible rfl
        try simp only [Act.put, List.setIfInBounds_toArray, List.set_cons_zero, List.set_cons_succ]
        refine wpAnyF_takesI (i := 4) (v := ?_) rfl (by kernel_rfl) (fun _ _ _ h => h) (by rfl) hSd ?_ ?_
        rotate_left 1
        · intro w hSw
          obtain ⟨s1, s2, s3, s4, s5, s6, s7, s8⟩ := hSw
          go_simp
          try with_reducible rfl
        try simp only [Act.put, List.setIfInBounds_toArray, List.set_cons_zero, List.set_cons_succ]
        refine wpAnyF_takesI (i := 5) (v := ?_) rfl (by kernel_rfl) (fun _ _ _ h => h) (by rfl) hSd ?_ ?_
        rotate_left 1
        · intro w hSw
          obtain ⟨s1, s2, s3, s4, s5, s6, s7, s8⟩ := hSw
          go_simp
          try with_reducible rfl
        try simp only [Act.put, List.setIfInBounds_toArray, List.set_cons_zero, List.set_cons_succ]
        have bA : Below w6.heap.size w6 (wq.alloc (.cells #[.int .i64 xs, .int .i64 xz, .int .i64 xk, .int .i64 xd, .int .i64 xn, .int .i64 xm, .int .i64 xp] 56)) := bd.trans ((Below.refl _ _).alloc bd.size _)
        refine wpAnyF_next (i := 6) rfl (by kernel_rfl) (fun K hK => ?_)
        go_simp
        refine hK.out _ _ (.inr (HC.out _ bA)) ?_
        clear hK K
        try simp only [Act.put, List.setIfInBounds_toArray, List.set_cons_zero, List.set_cons_succ]
        refine wpAnyF_next (i := 7) rfl (by kernel_rfl) (fun K hK => ?_)
        have hcA : (wq.alloc (.cells #[.int .i64 xs, .int .i64 xz, .int .i64 xk, .int .i64 xd, .int .i64 xn, .int .i64 xm, .int .i64 xp] 56)).ownsRow base 56 7 (.slice a V.length cap) V.length (cellsL encR V) := own_after H6.out.own bA
        refine step_append_lies _ (by rfl) _ _ _ (by rfl) base 56 v0 _ 7 56 Try.underlying46 hv hv0 hv1 hv2 rfl (by omega) _ V.length _ (by rfl) hcA ⟨wq.heap.size, 0, none⟩ 1 1 [.int .i64 xs, .int .i64 xz, .int .i64 xk, .int .i64 xd, .int .i64 xn, .int .i64 xm, .int .i64 xp] (by rfl) (by rfl) (World.news_of_block (cs := #[.int .i64 xs, .int .i64 xz, .int .i64 xk, .int .i64 xd, .int .i64 xn, .int .i64 xm, .int .i64 xp]) (t := 56) (fr := (0, 0)) (heap_alloc_new wq _)) (by simp [Value.oneCell']) (by omega) (by unfold maxLen; omega) (by omega) (by have := bA.size; omega) _ rfl ?_
        intro g c3 wG hown hgrow hat hgt
        have kG : Blk wG p #[.slice a V.length cap] 48 := (H6.out.blk.after bA).grown hgrow (H6.out.blk.own_ne H6.out.own (by decide))
        have hne : (Value.slice a V.length cap).ownBlock ≠ some w.heap.size := fun e => by have := (own_cells H.out.own e).2.1; omega
        have kK := ((HK.out.after HB06.out).after bA).grown hgrow hne
        have m0 : wG.cell? ⟨p, 0, none⟩ = some (.slice a V.length cap) := kG.cell 0 rfl
        have mf := kG.free 0
        have hSG : wG.cell? ⟨p, 0, none⟩ = some (.slice a V.length cap) ∧ wG.cell? ⟨w.heap.size, 0, none⟩ = some (.int .i64 xs) ∧ wG.cell? ⟨w.heap.size, 1, none⟩ = some (.int .i64 xz) ∧ wG.cell? ⟨w.heap.size, 2, none⟩ = some (.int .i64 xk) ∧ wG.cell? ⟨w.heap.size, 3, none⟩ = some (.int .i64 xd) ∧ wG.cell? ⟨w.heap.size, 4, none⟩ = some (.int .i64 xn) ∧ wG.cell? ⟨w.heap.size, 5, none⟩ = some (.int .i64 xm) ∧ wG.cell? ⟨w.heap.size, 6, none⟩ = some (.int .i64 xp) := ⟨m0, kK.cell 0 rfl, kK.cell 1 rfl, kK.cell 2 rfl, kK.cell 3 rfl, kK.cell 4 rfl, kK.cell 5 rfl, kK.cell 6 rfl⟩
        have HFin : Hid (RfAt (wG.setCell ⟨p, 0, none⟩ (.slice (some ⟨g, 0, none⟩) (V.length + 1) c3)) base p (.slice (some ⟨g, 0, none⟩) (V.length + 1) c3) (V ++ [⟨xs, xc, xk, xd, xn, xm, xp⟩]) ∧ Turn (RfAt.bs p (.slice a V.length cap)) w (wG.setCell ⟨p, 0, none⟩ (.slice (some ⟨g, 0, none⟩) (V.length + 1) c3)) ∧ ∀ x, (Value.slice (some ⟨g, 0, none⟩) (V.length + 1) c3).ownBlock = some x → (Value.slice a V.length cap).ownBlock = some x ∨ w.heap.size ≤ x) := by
          refine ⟨⟨kG.set 0 _, ?_, H6.out.hp⟩, ?_, fun x e => ?_⟩
          · have h1 := hown.kept (grown_setCell wG p 0 (.slice (some ⟨g, 0, none⟩) (V.length + 1) c3)) (Or.inr (by have := kG.own_ne hown (by decide); simpa using this))
            rw [List.length_append, cellsL_snoc, HVe.out]
            exact h1
          · refine (((Turn.of_below HB6.out).trans (Turn.of_below bA |> fun h => (⟨h.os, h.tape, h.output, h.size, h.block⟩ : Turn _ _ _))).trans ⟨hgrow.os, hgrow.tape, hgrow.output, hgrow.size, fun k hk hn => hgrow.block k hk fun e => hn ?_⟩).trans (Turn.of_grown (grown_setCell wG p 0 _) (by simp [RfAt.bs]))
            unfold RfAt.bs
            rw [← e]
            simp
          · simp only [Value.ownBlock, Option.some.injEq] at e
            subst e
            rcases hat with h | h
            · exact Or.inl h
            · have := bA.size
              exact Or.inr (by omega)
        refine hK.out _ _ (.inr hSG) ?_
        clear hK K hown hat hgt kK kG
        try simp only [Act.put, List.setIfInBounds_toArray, List.set_cons_zero, List.set_cons_succ]
        refine wpAnyF_next (i := 8) rfl (by kernel_rfl) (fun K hK => ?_)
        go_simp
        refine hK.out _ _ (.inr hSG) ?_
        clear hK K
        try simp only [Act.put, List.setIfInBounds_toArray, List.set_cons_zero, List.set_cons_succ]
        refine wpAnyF_next (i := 9) rfl (by kernel_rfl) (fun K hK => ?_)
        go_simp
        refine hK.out _ _ (.inr hSG) ?_
        clear hK K
        try simp only [Act.put, List.setIfInBounds_toArray, List.set_cons_zero, List.set_cons_succ]
        refine wpAnyF_next (i := 10) rfl (by kernel_rfl) (fun K hK => ?_)
        go_simp
        refine hK.out _ _ (.inl rfl) ?_
        clear hK K
        try simp only [Act.put, List.setIfInBounds_toArray, List.set_cons_zero, List.set_cons_succ]
        refine wpAnyF_done (by kernel_rfl) ?_ _
        clear hSG m0 mf HC bd bA hSd hcA hgrow
        go_wp2_with fail
        go_ret2
        exact ⟨_, _, by rw [HPE.out]; rfl, fun _ => HLI.out, fun h => absurd HPE.out h, by unfold putV; rw [if_pos HPE.out]; exact HFin.out.1, HFin.out.2.1, HFin.out.2.2⟩
      · have hRr : RecsAt w2 a 7 encR V := RowsAt.after HR.out (HB0.out.trans (HB02.out.mono HB0.out.size))
        obtain ⟨b, o, rfl, _⟩ := hRr (by omega)
        have t0 : w2.cell? ⟨b, o + n * 7, none⟩ = some (.int .i64 u.s) := RecsAt.cell hRr rfl hn1 hn2 (j := 0) rfl
        have i1 : (0 : Int) ≤ (n : Int) := by omega
        have i2 : (n : Int) < (V.length : Int) := by omega
        by_cases h3 : u.s = xs
        · have hE17 : E = 17 := by rw [HE2.out, hn3]; exact if_pos h3
          rw [h3] at t0
          clear hi hRr hn2 hn3 h3
          subst hE17
          go_wp2_with (go_quiet (fail))
          go_ret2
          exact putr_err HE.out (by decide) H.out (HB0.out.trans ((HB02.out.trans ((below_draws _ _).mono HB02.out.size)).mono HB0.out.size))
        · have HPE : Hid (putE V ⟨xs, xc, xk, xd, xn, xm, xp⟩ = 0) := by
            show _ = _
            rw [HE.out, HE2.out, hn3]
            exact if_neg h3
          have HLI : Hid (latI V (Vs.pl ⟨xs, xc, xk, xd, xn, xm, xp⟩) xs n) := by
            show latI _ _ _ _
            rw [HQ.out]
            exact HI.out
          obtain ⟨z, hz⟩ : ∃ z, u.s = z := ⟨_, rfl⟩
          rw [hz] at t0 h3
          have d3 : (z == xs) = false := by simpa using h3
          clear hi hRr hn2 hn3 h3 hz
          go_wp2_with (go_quiet (fail))
          obtain ⟨w6, hw6⟩ : ∃ W, w2.drewN nq = W := ⟨_, rfl⟩
          have hb06 : Below w0.heap.size w0 w6 := by rw [← hw6]; exact HB02.out.trans ((below_draws _ _).mono HB02.out.size)
          rw [hw6]
          clear hw6
          have hb6 : Below w.heap.size w w6 := HB0.out.trans (hb06.mono HB0.out.size)
          have H6 := Lib.hid (H.out.after hb6)
          have HB06 := Lib.hid hb06
          have hK6 : Blk w6 w.heap.size #[.int .i64 xs, .int .i64 xz, .int .i64 xk, .int .i64 xd, .int .i64 xn, .int .i64 xm, .int .i64 xp] 56 := HK.out.after hb06
          have z6 := hb6.size
          have HB6 := Lib.hid hb6
          have hC : ∀ W, Below w6.heap.size w6 W → W.cell? ⟨p, 0, none⟩ = some (.slice (some ⟨b, o, none⟩) V.length cap) ∧ W.cell? ⟨w.heap.size, 0, none⟩ = some (.int .i64 xs) ∧ W.cell? ⟨w.heap.size, 1, none⟩ = some (.int .i64 xz) ∧ W.cell? ⟨w.heap.size, 2, none⟩ = some (.int .i64 xk) ∧ W.cell? ⟨w.heap.size, 3, none⟩ = some (.int .i64 xd) ∧ W.cell? ⟨w.heap.size, 4, none⟩ = some (.int .i64 xn) ∧ W.cell? ⟨w.heap.size, 5, none⟩ = some (.int .i64 xm) ∧ W.cell? ⟨w.heap.size, 6, none⟩ = some (.int .i64 xp) := fun W hW => ⟨below_cell hW (H6.out.blk.cell 0 rfl), below_cell hW (hK6.cell 0 rfl), below_cell hW (hK6.cell 1 rfl), below_cell hW (hK6.cell 2 rfl), below_cell hW (hK6.cell 3 rfl), below_cell hW (hK6.cell 4 rfl), below_cell hW (hK6.cell 5 rfl), below_cell hW (hK6.cell 6 rfl)⟩
          have HC := Lib.hid hC
          have bd : Below w6.heap.size w6 w6.drew := (Below.refl _ _).drew
          clear hC hK6 hb6 hb06
          refine wp_region_final (fun W => W.cell? ⟨p, 0, none⟩ = some (.slice (some ⟨b, o, none⟩) V.length cap) ∧ W.cell? ⟨w.heap.size, 0, none⟩ = some (.int .i64 xs) ∧ W.cell? ⟨w.heap.size, 1, none⟩ = some (.int .i64 xz) ∧ W.cell? ⟨w.heap.size, 2, none⟩ = some (.int .i64 xk) ∧ W.cell? ⟨w.heap.size, 3, none⟩ = some (.int .i64 xd) ∧ W.cell? ⟨w.heap.size, 4, none⟩ = some (.int .i64 xn) ∧ W.cell? ⟨w.heap.size, 5, none⟩ = some (.int .i64 xm) ∧ W.cell? ⟨w.heap.size, 6, none⟩ = some (.int .i64 xp)) 10 (by kernel_rfl) ?_
          have hSd := HC.out _ bd
          obtain ⟨wq, hwq⟩ : ∃ W, w6.drew = W := ⟨_, rfl⟩
          rw [hwq] at bd hSd ⊢
          clear hwq
          refine wpAnyF_takesI (i := 0) (v := ?_) rfl (by kernel_rfl) (fun _ _ _ h => h) (by rfl) hSd ?_ ?_
          rotate_left 1
          · intro w hSw
            obtain ⟨s1, s2, s3, s4, s5, s6, s7, s8⟩ := hSw
            go_simp
            try with_reducible rfl
          try simp only [Act.put, List.setIfInBounds_toArray, List.set_cons_zero, List.set_cons_succ]
          refine wpAnyF_takesI (i := 1) (v := ?_) rfl (by kernel_rfl) (fun _ _ _ h => h) (by rfl) hSd ?_ ?_
          rotate_left 1
          · intro w hSw
            obtain ⟨s1, s2, s3, s4, s5, s6, s7, s8⟩ := hSw
            go_simp
            try with_reducible rfl
          try simp only [Act.put, List.setIfInBounds_toArray, List.set_cons_zero, List.set_cons_succ]
          refine wpAnyF_takesI (i := 2) (v := ?_) rfl (by kernel_rfl) (fun _ _ _ h => h) (by rfl) hSd ?_ ?_
          rotate_left 1
          · intro w hSw
            obtain ⟨s1, s2, s3, s4, s5, s6, s7, s8⟩ := hSw
            go_simp
            try with_reducible rfl
          try simp only [Act.put, List.setIfInBounds_toArray, List.set_cons_zero, List.set_cons_succ]
          refine wpAnyF_takesI (i := 3) (v := ?_) rfl (by kernel_rfl) (fun _ _ _ h => h) (by rfl) hSd ?_ ?_
          rotate_left 1
          · intro w hSw
            obtain ⟨s1, s2, s3, s4, s5, s6, s7, s8⟩ := hSw
            go_simp
            try with_reducible rfl
          try simp only [Act.put, List.setIfInBounds_toArray, List.set_cons_zero, List.set_cons_succ]
          refine wpAnyF_takesI (i := 4) (v := ?_) rfl (by kernel_rfl) (fun _ _ _ h => h) (by rfl) hSd ?_ ?_
          rotate_left 1
          · intro w hSw
            obtain ⟨s1, s2, s3, s4, s5, s6, s7, s8⟩ := hSw
            go_simp
            try with_reducible rfl
          try simp only [Act.put, List.setIfInBounds_toArray, List.set_cons_zero, List.set_cons_succ]
          refine wpAnyF_takesI (i := 5) (v := ?_) rfl (by kernel_rfl) (fun _ _ _ h => h) (by rfl) hSd ?_ ?_
          rotate_left 1
          · intro w hSw
            obtain ⟨s1, s2, s3, s4, s5, s6, s7, s8⟩ := hSw
            go_simp
            try with_reducible rfl
          try simp only [Act.put, List.setIfInBounds_toArray, List.set_cons_zero, List.set_cons_succ]
          have bA : Below w6.heap.size w6 (wq.alloc (.cells #[.int .i64 xs, .int .i64 xz, .int .i64 xk, .int .i64 xd, .int .i64 xn, .int .i64 xm, .int .i64 xp] 56)) := bd.trans ((Below.refl _ _).alloc bd.size _)
          refine wpAnyF_next (i := 6) rfl (by kernel_rfl) (fun K hK => ?_)
          go_simp
          refine hK.out _ _ (.inr (HC.out _ bA)) ?_
          clear hK K
          try simp only [Act.put, List.setIfInBounds_toArray, List.set_cons_zero, List.set_cons_succ]
          refine wpAnyF_next (i := 7) rfl (by kernel_rfl) (fun K hK => ?_)
          have hcA : (wq.alloc (.cells #[.int .i64 xs, .int .i64 xz, .int .i64 xk, .int .i64 xd, .int .i64 xn, .int .i64 xm, .int .i64 xp] 56)).ownsRow base 56 7 (.slice (some ⟨b, o, none⟩) V.length cap) V.length (cellsL encR V) := own_after H6.out.own bA
          refine step_append_lies _ (by rfl) _ _ _ (by rfl) base 56 v0 _ 7 56 Try.underlying46 hv hv0 hv1 hv2 rfl (by omega) _ V.length _ (by rfl) hcA ⟨wq.heap.size, 0, none⟩ 1 1 [.int .i64 xs, .int .i64 xz, .int .i64 xk, .int .i64 xd, .int .i64 xn, .int .i64 xm, .int .i64 xp] (by rfl) (by rfl) (World.news_of_block (cs := #[.int .i64 xs, .int .i64 xz, .int .i64 xk, .int .i64 xd, .int .i64 xn, .int .i64 xm, .int .i64 xp]) (t := 56) (fr := (0, 0)) (heap_alloc_new wq _)) (by simp [Value.oneCell']) (by omega) (by unfold maxLen; omega) (by omega) (by have := bA.size; omega) _ rfl ?_
          intro g c3 wG hown hgrow hat hgt
          have kG : Blk wG p #[.slice (some ⟨b, o, none⟩) V.length cap] 48 := (H6.out.blk.after bA).grown hgrow (H6.out.blk.own_ne H6.out.own (by decide))
          have hne : (Value.slice (some ⟨b, o, none⟩) V.length cap).ownBlock ≠ some w.heap.size := fun e => by have := (own_cells H.out.own e).2.1; omega
          have kK := ((HK.out.after HB06.out).after bA).grown hgrow hne
          have m0 : wG.cell? ⟨p, 0, none⟩ = some (.slice (some ⟨b, o, none⟩) V.length cap) := kG.cell 0 rfl
          have mf := kG.free 0
          have hSG : wG.cell? ⟨p, 0, none⟩ = some (.slice (some ⟨b, o, none⟩) V.length cap) ∧ wG.cell? ⟨w.heap.size, 0, none⟩ = some (.int .i64 xs) ∧ wG.cell? ⟨w.heap.size, 1, none⟩ = some (.int .i64 xz) ∧ wG.cell? ⟨w.heap.size, 2, none⟩ = some (.int .i64 xk) ∧ wG.cell? ⟨w.heap.size, 3, none⟩ = some (.int .i64 xd) ∧ wG.cell? ⟨w.heap.size, 4, none⟩ = some (.int .i64 xn) ∧ wG.cell? ⟨w.heap.size, 5, none⟩ = some (.int .i64 xm) ∧ wG.cell? ⟨w.heap.size, 6, none⟩ = some (.int .i64 xp) := ⟨m0, kK.cell 0 rfl, kK.cell 1 rfl, kK.cell 2 rfl, kK.cell 3 rfl, kK.cell 4 rfl, kK.cell 5 rfl, kK.cell 6 rfl⟩
          have HFin : Hid (RfAt (wG.setCell ⟨p, 0, none⟩ (.slice (some ⟨g, 0, none⟩) (V.length + 1) c3)) base p (.slice (some ⟨g, 0, none⟩) (V.length + 1) c3) (V ++ [⟨xs, xc, xk, xd, xn, xm, xp⟩]) ∧ Turn (RfAt.bs p (.slice (some ⟨b, o, none⟩) V.length cap)) w (wG.setCell ⟨p, 0, none⟩ (.slice (some ⟨g, 0, none⟩) (V.length + 1) c3)) ∧ ∀ x, (Value.slice (some ⟨g, 0, none⟩) (V.length + 1) c3).ownBlock = some x → (Value.slice (some ⟨b, o, none⟩) V.length cap).ownBlock = some x ∨ w.heap.size ≤ x) := by
            refine ⟨⟨kG.set 0 _, ?_, H6.out.hp⟩, ?_, fun x e => ?_⟩
            · have h1 := hown.kept (grown_setCell wG p 0 (.slice (some ⟨g, 0, none⟩) (V.length + 1) c3)) (Or.inr (by have := kG.own_ne hown (by decide); simpa using this))
              rw [List.length_append, cellsL_snoc, HVe.out]
              exact h1
            · refine (((Turn.of_below HB6.out).trans (Turn.of_below bA |> fun h => (⟨h.os, h.tape, h.output, h.size, h.block⟩ : Turn _ _ _))).trans ⟨hgrow.os, hgrow.tape, hgrow.output, hgrow.size, fun k hk hn => hgrow.block k hk fun e => hn ?_⟩).trans (Turn.of_grown (grown_setCell wG p 0 _) (by simp [RfAt.bs]))
              unfold RfAt.bs
              rw [← e]
              simp
            · simp only [Value.ownBlock, Option.some.injEq] at e
              subst e
              rcases hat with h | h
              · exact Or.inl h
              · have := bA.size
                exact Or.inr (by omega)
          refine hK.out _ _ (.inr hSG) ?_
          clear hK K hown hat hgt kK kG
          try simp only [Act.put, List.setIfInBounds_toArray, List.set_cons_zero, List.set_cons_succ]
          refine wpAnyF_next (i := 8) rfl (by kernel_rfl) (fun K hK => ?_)
          go_simp
          refine hK.out _ _ (.inr hSG) ?_
          clear hK K
          try simp only [Act.put, List.setIfInBounds_toArray, List.set_cons_zero, List.set_cons_succ]
          refine wpAnyF_next (i := 9) rfl (by kernel_rfl) (fun K hK => ?_)
          go_simp
          refine hK.out _ _ (.inr hSG) ?_
          clear hK K
          try simp only [Act.put, List.setIfInBounds_toArray, List.set_cons_zero, List.set_cons_succ]
          refine wpAnyF_next (i := 10) rfl (by kernel_rfl) (fun K hK => ?_)
          go_simp
          refine hK.out _ _ (.inl rfl) ?_
          clear hK K
          try simp only [Act.put, List.setIfInBounds_toArray, List.set_cons_zero, List.set_cons_succ]
          refine wpAnyF_done (by kernel_rfl) ?_ _
          clear hSG m0 mf HC bd bA hSd hcA hgrow
          go_wp2_with fail
          go_ret2
          exact ⟨_, _, by rw [HPE.out]; rfl, fun _ => HLI.out, fun h => absurd HPE.out h, by unfold putV; rw [if_pos HPE.out]; exact HFin.out.1, HFin.out.2.1, HFin.out.2.2⟩

end Go.Proofs.Ytkloijkfaooodaa
