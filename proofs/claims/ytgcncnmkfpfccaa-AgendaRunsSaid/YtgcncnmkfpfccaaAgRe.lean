/- The document's agenda: Move. -/
import Derived.Test.YtgcncnmkfpfccaaAgRd
namespace Go.Proofs.Ytgcncnmkfpfccaa
open Go.RowKit Go.Sort Go.Shelf
set_option linter.unusedVariables false
set_option linter.unusedSimpArgs false

def RMoveEnd (w : World) (R : Nat) (a : Option Addr) (S : List It) (N no d : Int) (e : Ending) (w' : World) : Prop := e = .returned (.int .i64 (moveE S no d)) ∧ RgEnd w R a (moveS S no d) N w'
set_option maxHeartbeats 4000000 in
set_option maxRecDepth 100000 in
theorem rmove_ok (R : Nat) (a : Option Addr) (cap : Nat) (S : List It) (N no d : Int) (w : World) (h : RgAt w R a cap S N) (hl : S.length ≤ 1000) (hn : Nos S) (hr : Rising It.ky S) :
    Calls Try.prog 15 #[.pointer (some ⟨R, 0, none⟩), .int .i64 no, .int .i64 d] w (RMoveEnd w R a S N no d) := by
  have H := Lib.hid h
  have HC := Lib.hid (rdrop_ok R a cap S N no w h hl hn)
  have hRl : R < w.heap.size := h.blk.lt
  clear h
  go_enter Try.func15, Try.ntmps15
  go_wp2_with fail
  with_reducible refine HC.out.mono ?_
  rintro e w1 ⟨rfl, a1, cap1, hR1, ht1, ho1⟩
  cases hg : getO S no with
  | none =>
    have hD : dropS S no = S := List.filter_eq_self.2 fun z hz => by simpa using getO_none.1 hg z hz
    have HFin : Hid (∀ o, RMoveEnd w R a S N no d (.returned (.int .i64 16)) (w1.alloc o)) := fun o => by
      have hb : Below w1.heap.size w1 (w1.alloc o) := (Below.refl _ _).alloc (Nat.le_refl _) _
      refine ⟨by unfold moveE; rw [hg]; rfl, ?_⟩
      unfold moveS
      rw [hg]
      rw [hD] at hR1
      exact ⟨a1, cap1, hR1.after hb, ht1.then hb, ho1⟩
    clear hR1 ht1 ho1 hD H
    unfold opR drV
    dsimp only [encI]
    go_wp2_with fail
    go_ret
    exact HFin.out _
  | some x =>
    obtain ⟨hxm, hxn⟩ := getO_some hg
    have hlD : (dropS S no).length ≤ 1000 := Nat.le_trans (dropS_len S no) hl
    have hkey : ∀ y : It, y.n = no → ∀ z ∈ dropS S no, z.ky ≠ y.ky := fun y hy z hz e => by
      have := drop_no hz
      simp [It.ky] at e
      omega
    obtain ⟨xd, xn, xt⟩ := x
    dsimp only at hxn
    subst hxn
    have HH := Lib.hid ht1
    have HO := Lib.hid ho1
    have HR1 := Lib.hid hR1
    have hz1 := ht1.size
    have HG := Lib.hid hg
    unfold opR drV
    dsimp only [encI]
    cases hd : dayB d with
    | false =>
      have hS : putK It.ky (dropS S xn) ⟨xd, xn, xt⟩ = S := by
        refine rising_ext (putK_rising (drop_rising hr _)) hr fun z => ?_
        rw [show putK It.ky (dropS S xn) ⟨xd, xn, xt⟩ = putK It.ky (dropS S (⟨xd, xn, xt⟩ : It).n) ⟨xd, xn, xt⟩ from rfl, putD_mem hr]
        constructor
        · rintro (rfl | h)
          · exact hxm
          · exact dropS_mem h
        · intro hz
          by_cases e : z.n = xn
          · exact .inl (nos_mem hn hz hxm e)
          · exact .inr (List.mem_filter.2 ⟨hz, by simpa using e⟩)
      have HSe := Lib.hid hS
      clear hS
      have hE : moveE S xn d = 18 := by unfold moveE; rw [hg, hd]; rfl
      have hM : moveS S xn d = putK It.ky (dropS S xn) ⟨xd, xn, xt⟩ := by rw [HSe.out]; unfold moveS; rw [hg]; dsimp only; rw [hd]; rfl
      rcases dayB_false hd with h1 | ⟨h1, h2⟩
      · have HE := Lib.hid hE
        have HM := Lib.hid hM
        obtain ⟨w2, hw2⟩ : ∃ W, w1.alloc (.cells #[.int .i64 xd, .int .i64 xn, .int .i64 xt] 37) = W := ⟨_, rfl⟩
        have hb2 : Below w1.heap.size w1 w2 := by rw [← hw2]; exact (Below.refl _ _).alloc (Nat.le_refl _) _
        have kx : Blk w2 w1.heap.size #[.int .i64 xd, .int .i64 xn, .int .i64 xt] 37 := by rw [← hw2]; exact Blk.new _ _ _
        have hR2 := hR1.after hb2
        have HCi : Hid (∀ W, Below w2.heap.size w2 W → Calls Try.prog 26 #[.slice a1 (dropS S xn).length cap1, .agg #[.int .i64 xd, .int .i64 xn, .int .i64 xt]] W (InEnd W (putK It.ky (dropS S xn) ⟨xd, xn, xt⟩))) := fun W hW => in_ok a1 cap1 (dropS S xn) ⟨xd, xn, xt⟩ W (hR2.after hW).sl hlD (hkey _ rfl)
        have HS : Hid (∀ W, Below w2.heap.size w2 W → (W.cell? ⟨R, 0, none⟩ = some (.slice a1 (dropS S xn).length cap1) ∧ W.cell? ⟨w1.heap.size, 0, none⟩ = some (.int .i64 xd) ∧ W.cell? ⟨w1.heap.size, 1, none⟩ = some (.int .i64 xn) ∧ W.cell? ⟨w1.heap.size, 2, none⟩ = some (.int .i64 xt)) ∧ W.frozen? ⟨R, 0, none⟩ = false ∧ Blk W R #[.slice a1 (dropS S xn).length cap1, .int .i64 N] 29) := fun W hW => ⟨⟨(hR2.after hW).blk.cell 0 rfl, (kx.after hW).cell 0 rfl, (kx.after hW).cell 1 rfl, (kx.after hW).cell 2 rfl⟩, (hR2.after hW).blk.free 0, (hR2.after hW).blk⟩
        have HB2 := Lib.hid hb2
        have HW2 := Lib.hid hw2
        have HKey := Lib.hid hkey
        clear hb2 hw2 kx hR2 hR1 ht1 ho1 hkey hg hd hE hM hxm hr hn
        go_wp2_with fail
        rw [HW2.out]
        refine wp_region_final (fun W => W.cell? ⟨R, 0, none⟩ = some (.slice a1 (dropS S xn).length cap1) ∧ W.cell? ⟨w1.heap.size, 0, none⟩ = some (.int .i64 xd) ∧ W.cell? ⟨w1.heap.size, 1, none⟩ = some (.int .i64 xn) ∧ W.cell? ⟨w1.heap.size, 2, none⟩ = some (.int .i64 xt)) 9 (by kernel_rfl) ?_
        have bd : Below w2.heap.size w2 w2.drew := (Below.refl _ _).drew
        obtain ⟨wq, hwq⟩ : ∃ W, w2.drew = W := ⟨_, rfl⟩
        rw [hwq] at bd ⊢
        clear hwq
        have hSd := (HS.out _ bd).1
        refine fT_take (i := 0) (v := ?_) rfl (by kernel_rfl) (fun _ _ _ h => h) (by rfl) hSd ?_ ?_
        rotate_left 1
        · intro wS hSw
          obtain ⟨s1, s2, s3, s4⟩ := hSw
          go_simp
          try with_reducible rfl
        try simp only [Act.put, List.setIfInBounds_toArray, List.set_cons_zero, List.set_cons_succ]
        refine fT_take (i := 1) (v := ?_) rfl (by kernel_rfl) (fun _ _ _ h => h) (by rfl) hSd ?_ ?_
        rotate_left 1
        · intro wS hSw
          obtain ⟨s1, s2, s3, s4⟩ := hSw
          go_simp
          try with_reducible rfl
        try simp only [Act.put, List.setIfInBounds_toArray, List.set_cons_zero, List.set_cons_succ]
        refine fT_take (i := 2) (v := ?_) rfl (by kernel_rfl) (fun _ _ _ h => h) (by rfl) hSd ?_ ?_
        rotate_left 1
        · intro wS hSw
          obtain ⟨s1, s2, s3, s4⟩ := hSw
          go_simp
          try with_reducible rfl
        try simp only [Act.put, List.setIfInBounds_toArray, List.set_cons_zero, List.set_cons_succ]
        refine fT_take (i := 3) (v := ?_) rfl (by kernel_rfl) (fun _ _ _ h => h) (by rfl) hSd ?_ ?_
        rotate_left 1
        · intro wS hSw
          obtain ⟨s1, s2, s3, s4⟩ := hSw
          go_simp
          try with_reducible rfl
        try simp only [Act.put, List.setIfInBounds_toArray, List.set_cons_zero, List.set_cons_succ]
        refine fT_take (i := 4) (v := ?_) rfl (by kernel_rfl) (fun _ _ _ h => h) (by rfl) hSd ?_ ?_
        rotate_left 1
        · intro wS hSw
          obtain ⟨s1, s2, s3, s4⟩ := hSw
          go_simp
          try with_reducible rfl
        try simp only [Act.put, List.setIfInBounds_toArray, List.set_cons_zero, List.set_cons_succ]
        refine fT_take (i := 5) (v := ?_) rfl (by kernel_rfl) (fun _ _ _ h => h) (by rfl) hSd ?_ ?_
        rotate_left 1
        · intro wS hSw
          obtain ⟨s1, s2, s3, s4⟩ := hSw
          go_simp
          try with_reducible rfl
        try simp only [Act.put, List.setIfInBounds_toArray, List.set_cons_zero, List.set_cons_succ]
        refine wpAnyF_next (i := 6) rfl (by kernel_rfl) (fun K hK => ?_)
        go_simp
        with_reducible refine (HCi.out wq bd).mono ?_
        rintro e w5 ⟨a5, c5, rfl, hs5, hb5, hx5⟩
        have hB5 := bd.trans (hb5.mono bd.size)
        obtain ⟨hS5, f5, k5⟩ := HS.out _ hB5
        have m5 := hS5.1
        dsimp only
        refine hK.out _ _ (.inr hS5) ?_
        clear hK K
        try simp only [Act.put, List.setIfInBounds_toArray, List.set_cons_zero, List.set_cons_succ]
        refine fT_take (i := 7) (v := ?_) rfl (by kernel_rfl) (fun _ _ _ h => h) (by rfl) hS5 ?_ ?_
        rotate_left 1
        · intro wS hSw
          obtain ⟨s1, s2, s3, s4⟩ := hSw
          go_simp
          try with_reducible rfl
        try simp only [Act.put, List.setIfInBounds_toArray, List.set_cons_zero, List.set_cons_succ]
        refine fT_take (i := 8) (v := ?_) rfl (by kernel_rfl) (fun _ _ _ h => h) (by rfl) hS5 ?_ ?_
        rotate_left 1
        · intro wS hSw
          obtain ⟨s1, s2, s3, s4⟩ := hSw
          go_simp
          try with_reducible rfl
        try simp only [Act.put, List.setIfInBounds_toArray, List.set_cons_zero, List.set_cons_succ]
        refine wpAnyF_next (i := 9) rfl (by kernel_rfl) (fun K hK => ?_)
        go_simp
        refine hK.out _ _ (.inl rfl) ?_
        clear hK K
        try simp only [Act.put, List.setIfInBounds_toArray, List.set_cons_zero, List.set_cons_succ]
        refine wpAnyF_done (by kernel_rfl) ?_ _
        have z2 := HB2.out.size
        have z5 := bd.size
        have k6 := k5.set 0 (.slice a5 (putK It.ky (dropS S xn) ⟨xd, xn, xt⟩).length c5)
        have t6 := Turn.cell1 w5 R 0 (.slice a5 (putK It.ky (dropS S xn) ⟨xd, xn, xt⟩).length c5)
        have HFin : Hid (RMoveEnd w R a S N xn d (.returned (.int .i64 18)) (w5.setCell ⟨R, 0, none⟩ (.slice a5 (putK It.ky (dropS S xn) ⟨xd, xn, xt⟩).length c5))) := by
          refine ⟨by rw [HE.out], ?_⟩
          rw [HM.out]
          refine rg_set H.out (cap' := c5) (a' := a5) (hs5.turn t6 (fun x e => by have := hx5 x e; rw [List.mem_singleton]; omega)) (fun x e => by have := hx5 x e; omega) ((HH.out.then (HB2.out.trans (hB5.mono z2))).trans t6) k6 (fun x e => by have := hx5 x e; right; omega)
        clear k5 k6 t6 hs5 hb5 hx5 hB5 hS5 hSd bd m5 f5
        go_wp2_with fail
        go_ret
        exact HFin.out
      · have HE := Lib.hid hE
        have HM := Lib.hid hM
        obtain ⟨w2, hw2⟩ : ∃ W, w1.alloc (.cells #[.int .i64 xd, .int .i64 xn, .int .i64 xt] 37) = W := ⟨_, rfl⟩
        have hb2 : Below w1.heap.size w1 w2 := by rw [← hw2]; exact (Below.refl _ _).alloc (Nat.le_refl _) _
        have kx : Blk w2 w1.heap.size #[.int .i64 xd, .int .i64 xn, .int .i64 xt] 37 := by rw [← hw2]; exact Blk.new _ _ _
        have hR2 := hR1.after hb2
        have HCi : Hid (∀ W, Below w2.heap.size w2 W → Calls Try.prog 26 #[.slice a1 (dropS S xn).length cap1, .agg #[.int .i64 xd, .int .i64 xn, .int .i64 xt]] W (InEnd W (putK It.ky (dropS S xn) ⟨xd, xn, xt⟩))) := fun W hW => in_ok a1 cap1 (dropS S xn) ⟨xd, xn, xt⟩ W (hR2.after hW).sl hlD (hkey _ rfl)
        have HS : Hid (∀ W, Below w2.heap.size w2 W → (W.cell? ⟨R, 0, none⟩ = some (.slice a1 (dropS S xn).length cap1) ∧ W.cell? ⟨w1.heap.size, 0, none⟩ = some (.int .i64 xd) ∧ W.cell? ⟨w1.heap.size, 1, none⟩ = some (.int .i64 xn) ∧ W.cell? ⟨w1.heap.size, 2, none⟩ = some (.int .i64 xt)) ∧ W.frozen? ⟨R, 0, none⟩ = false ∧ Blk W R #[.slice a1 (dropS S xn).length cap1, .int .i64 N] 29) := fun W hW => ⟨⟨(hR2.after hW).blk.cell 0 rfl, (kx.after hW).cell 0 rfl, (kx.after hW).cell 1 rfl, (kx.after hW).cell 2 rfl⟩, (hR2.after hW).blk.free 0, (hR2.after hW).blk⟩
        have HB2 := Lib.hid hb2
        have HW2 := Lib.hid hw2
        have HKey := Lib.hid hkey
        clear hb2 hw2 kx hR2 hR1 ht1 ho1 hkey hg hd hE hM hxm hr hn
        go_wp2_with fail
        rw [HW2.out]
        refine wp_region_final (fun W => W.cell? ⟨R, 0, none⟩ = some (.slice a1 (dropS S xn).length cap1) ∧ W.cell? ⟨w1.heap.size, 0, none⟩ = some (.int .i64 xd) ∧ W.cell? ⟨w1.heap.size, 1, none⟩ = some (.int .i64 xn) ∧ W.cell? ⟨w1.heap.size, 2, none⟩ = some (.int .i64 xt)) 9 (by kernel_rfl) ?_
        have bd : Below w2.heap.size w2 w2.drew := (Below.refl _ _).drew
        obtain ⟨wq, hwq⟩ : ∃ W, w2.drew = W := ⟨_, rfl⟩
        rw [hwq] at bd ⊢
        clear hwq
        have hSd := (HS.out _ bd).1
        refine fT_take (i := 0) (v := ?_) rfl (by kernel_rfl) (fun _ _ _ h => h) (by rfl) hSd ?_ ?_
        rotate_left 1
        · intro wS hSw
          obtain ⟨s1, s2, s3, s4⟩ := hSw
          go_simp
          try with_reducible rfl
        try simp only [Act.put, List.setIfInBounds_toArray, List.set_cons_zero, List.set_cons_succ]
        refine fT_take (i := 1) (v := ?_) rfl (by kernel_rfl) (fun _ _ _ h => h) (by rfl) hSd ?_ ?_
        rotate_left 1
        · intro wS hSw
          obtain ⟨s1, s2, s3, s4⟩ := hSw
          go_simp
          try with_reducible rfl
        try simp only [Act.put, List.setIfInBounds_toArray, List.set_cons_zero, List.set_cons_succ]
        refine fT_take (i := 2) (v := ?_) rfl (by kernel_rfl) (fun _ _ _ h => h) (by rfl) hSd ?_ ?_
        rotate_left 1
        · intro wS hSw
          obtain ⟨s1, s2, s3, s4⟩ := hSw
          go_simp
          try with_reducible rfl
        try simp only [Act.put, List.setIfInBounds_toArray, List.set_cons_zero, List.set_cons_succ]
        refine fT_take (i := 3) (v := ?_) rfl (by kernel_rfl) (fun _ _ _ h => h) (by rfl) hSd ?_ ?_
        rotate_left 1
        · intro wS hSw
          obtain ⟨s1, s2, s3, s4⟩ := hSw
          go_simp
          try with_reducible rfl
        try simp only [Act.put, List.setIfInBounds_toArray, List.set_cons_zero, List.set_cons_succ]
        refine fT_take (i := 4) (v := ?_) rfl (by kernel_rfl) (fun _ _ _ h => h) (by rfl) hSd ?_ ?_
        rotate_left 1
        · intro wS hSw
          obtain ⟨s1, s2, s3, s4⟩ := hSw
          go_simp
          try with_reducible rfl
        try simp only [Act.put, List.setIfInBounds_toArray, List.set_cons_zero, List.set_cons_succ]
        refine fT_take (i := 5) (v := ?_) rfl (by kernel_rfl) (fun _ _ _ h => h) (by rfl) hSd ?_ ?_
        rotate_left 1
        · intro wS hSw
          obtain ⟨s1, s2, s3, s4⟩ := hSw
          go_simp
          try with_reducible rfl
        try simp only [Act.put, List.setIfInBounds_toArray, List.set_cons_zero, List.set_cons_succ]
        refine wpAnyF_next (i := 6) rfl (by kernel_rfl) (fun K hK => ?_)
        go_simp
        with_reducible refine (HCi.out wq bd).mono ?_
        rintro e w5 ⟨a5, c5, rfl, hs5, hb5, hx5⟩
        have hB5 := bd.trans (hb5.mono bd.size)
        obtain ⟨hS5, f5, k5⟩ := HS.out _ hB5
        have m5 := hS5.1
        dsimp only
        refine hK.out _ _ (.inr hS5) ?_
        clear hK K
        try simp only [Act.put, List.setIfInBounds_toArray, List.set_cons_zero, List.set_cons_succ]
        refine fT_take (i := 7) (v := ?_) rfl (by kernel_rfl) (fun _ _ _ h => h) (by rfl) hS5 ?_ ?_
        rotate_left 1
        · intro wS hSw
          obtain ⟨s1, s2, s3, s4⟩ := hSw
          go_simp
          try with_reducible rfl
        try simp only [Act.put, List.setIfInBounds_toArray, List.set_cons_zero, List.set_cons_succ]
        refine fT_take (i := 8) (v := ?_) rfl (by kernel_rfl) (fun _ _ _ h => h) (by rfl) hS5 ?_ ?_
        rotate_left 1
        · intro wS hSw
          obtain ⟨s1, s2, s3, s4⟩ := hSw
          go_simp
          try with_reducible rfl
        try simp only [Act.put, List.setIfInBounds_toArray, List.set_cons_zero, List.set_cons_succ]
        refine wpAnyF_next (i := 9) rfl (by kernel_rfl) (fun K hK => ?_)
        go_simp
        refine hK.out _ _ (.inl rfl) ?_
        clear hK K
        try simp only [Act.put, List.setIfInBounds_toArray, List.set_cons_zero, List.set_cons_succ]
        refine wpAnyF_done (by kernel_rfl) ?_ _
        have z2 := HB2.out.size
        have z5 := bd.size
        have k6 := k5.set 0 (.slice a5 (putK It.ky (dropS S xn) ⟨xd, xn, xt⟩).length c5)
        have t6 := Turn.cell1 w5 R 0 (.slice a5 (putK It.ky (dropS S xn) ⟨xd, xn, xt⟩).length c5)
        have HFin : Hid (RMoveEnd w R a S N xn d (.returned (.int .i64 18)) (w5.setCell ⟨R, 0, none⟩ (.slice a5 (putK It.ky (dropS S xn) ⟨xd, xn, xt⟩).length c5))) := by
          refine ⟨by rw [HE.out], ?_⟩
          rw [HM.out]
          refine rg_set H.out (cap' := c5) (a' := a5) (hs5.turn t6 (fun x e => by have := hx5 x e; rw [List.mem_singleton]; omega)) (fun x e => by have := hx5 x e; omega) ((HH.out.then (HB2.out.trans (hB5.mono z2))).trans t6) k6 (fun x e => by have := hx5 x e; right; omega)
        clear k5 k6 t6 hs5 hb5 hx5 hB5 hS5 hSd bd m5 f5
        go_wp2_with fail
        go_ret
        exact HFin.out
    | true =>
      have hE : moveE S xn d = 0 := by unfold moveE; rw [hg, hd]; rfl
      have hM : moveS S xn d = putK It.ky (dropS S xn) ⟨d, xn, xt⟩ := by unfold moveS; rw [hg]; dsimp only; rw [hd]; rfl
      obtain ⟨h1, h2⟩ := dayB_true hd
      have HE := Lib.hid hE
      have HM := Lib.hid hM
      obtain ⟨w2, hw2⟩ : ∃ W, w1.alloc (.cells #[.int .i64 d, .int .i64 xn, .int .i64 xt] 37) = W := ⟨_, rfl⟩
      have hb2 : Below w1.heap.size w1 w2 := by rw [← hw2]; exact (Below.refl _ _).alloc (Nat.le_refl _) _
      have kx : Blk w2 w1.heap.size #[.int .i64 d, .int .i64 xn, .int .i64 xt] 37 := by rw [← hw2]; exact Blk.new _ _ _
      have hR2 := hR1.after hb2
      have HCi : Hid (∀ W, Below w2.heap.size w2 W → Calls Try.prog 26 #[.slice a1 (dropS S xn).length cap1, .agg #[.int .i64 d, .int .i64 xn, .int .i64 xt]] W (InEnd W (putK It.ky (dropS S xn) ⟨d, xn, xt⟩))) := fun W hW => in_ok a1 cap1 (dropS S xn) ⟨d, xn, xt⟩ W (hR2.after hW).sl hlD (hkey _ rfl)
      have HS : Hid (∀ W, Below w2.heap.size w2 W → (W.cell? ⟨R, 0, none⟩ = some (.slice a1 (dropS S xn).length cap1) ∧ W.cell? ⟨w1.heap.size, 0, none⟩ = some (.int .i64 d) ∧ W.cell? ⟨w1.heap.size, 1, none⟩ = some (.int .i64 xn) ∧ W.cell? ⟨w1.heap.size, 2, none⟩ = some (.int .i64 xt)) ∧ W.frozen? ⟨R, 0, none⟩ = false ∧ Blk W R #[.slice a1 (dropS S xn).length cap1, .int .i64 N] 29) := fun W hW => ⟨⟨(hR2.after hW).blk.cell 0 rfl, (kx.after hW).cell 0 rfl, (kx.after hW).cell 1 rfl, (kx.after hW).cell 2 rfl⟩, (hR2.after hW).blk.free 0, (hR2.after hW).blk⟩
      have HB2 := Lib.hid hb2
      have HW2 := Lib.hid hw2
      have HKey := Lib.hid hkey
      clear hb2 hw2 kx hR2 hR1 ht1 ho1 hkey hg hd hE hM hxm hr hn
      go_wp2_with fail
      rw [HW2.out]
      refine wp_region_final (fun W => W.cell? ⟨R, 0, none⟩ = some (.slice a1 (dropS S xn).length cap1) ∧ W.cell? ⟨w1.heap.size, 0, none⟩ = some (.int .i64 d) ∧ W.cell? ⟨w1.heap.size, 1, none⟩ = some (.int .i64 xn) ∧ W.cell? ⟨w1.heap.size, 2, none⟩ = some (.int .i64 xt)) 9 (by kernel_rfl) ?_
      have bd : Below w2.heap.size w2 w2.drew := (Below.refl _ _).drew
      obtain ⟨wq, hwq⟩ : ∃ W, w2.drew = W := ⟨_, rfl⟩
      rw [hwq] at bd ⊢
      clear hwq
      have hSd := (HS.out _ bd).1
      refine fT_take (i := 0) (v := ?_) rfl (by kernel_rfl) (fun _ _ _ h => h) (by rfl) hSd ?_ ?_
      rotate_left 1
      · intro wS hSw
        obtain ⟨s1, s2, s3, s4⟩ := hSw
        go_simp
        try with_reducible rfl
      try simp only [Act.put, List.setIfInBounds_toArray, List.set_cons_zero, List.set_cons_succ]
      refine fT_take (i := 1) (v := ?_) rfl (by kernel_rfl) (fun _ _ _ h => h) (by rfl) hSd ?_ ?_
      rotate_left 1
      · intro wS hSw
        obtain ⟨s1, s2, s3, s4⟩ := hSw
        go_simp
        try with_reducible rfl
      try simp only [Act.put, List.setIfInBounds_toArray, List.set_cons_zero, List.set_cons_succ]
      refine fT_take (i := 2) (v := ?_) rfl (by kernel_rfl) (fun _ _ _ h => h) (by rfl) hSd ?_ ?_
      rotate_left 1
      · intro wS hSw
        obtain ⟨s1, s2, s3, s4⟩ := hSw
        go_simp
        try with_reducible rfl
      try simp only [Act.put, List.setIfInBounds_toArray, List.set_cons_zero, List.set_cons_succ]
      refine fT_take (i := 3) (v := ?_) rfl (by kernel_rfl) (fun _ _ _ h => h) (by rfl) hSd ?_ ?_
      rotate_left 1
      · intro wS hSw
        obtain ⟨s1, s2, s3, s4⟩ := hSw
        go_simp
        try with_reducible rfl
      try simp only [Act.put, List.setIfInBounds_toArray, List.set_cons_zero, List.set_cons_succ]
      refine fT_take (i := 4) (v := ?_) rfl (by kernel_rfl) (fun _ _ _ h => h) (by rfl) hSd ?_ ?_
      rotate_left 1
      · intro wS hSw
        obtain ⟨s1, s2, s3, s4⟩ := hSw
        go_simp
        try with_reducible rfl
      try simp only [Act.put, List.setIfInBounds_toArray, List.set_cons_zero, List.set_cons_succ]
      refine fT_take (i := 5) (v := ?_) rfl (by kernel_rfl) (fun _ _ _ h => h) (by rfl) hSd ?_ ?_
      rotate_left 1
      · intro wS hSw
        obtain ⟨s1, s2, s3, s4⟩ := hSw
        go_simp
        try with_reducible rfl
      try simp only [Act.put, List.setIfInBounds_toArray, List.set_cons_zero, List.set_cons_succ]
      refine wpAnyF_next (i := 6) rfl (by kernel_rfl) (fun K hK => ?_)
      go_simp
      with_reducible refine (HCi.out wq bd).mono ?_
      rintro e w5 ⟨a5, c5, rfl, hs5, hb5, hx5⟩
      have hB5 := bd.trans (hb5.mono bd.size)
      obtain ⟨hS5, f5, k5⟩ := HS.out _ hB5
      have m5 := hS5.1
      dsimp only
      refine hK.out _ _ (.inr hS5) ?_
      clear hK K
      try simp only [Act.put, List.setIfInBounds_toArray, List.set_cons_zero, List.set_cons_succ]
      refine fT_take (i := 7) (v := ?_) rfl (by kernel_rfl) (fun _ _ _ h => h) (by rfl) hS5 ?_ ?_
      rotate_left 1
      · intro wS hSw
        obtain ⟨s1, s2, s3, s4⟩ := hSw
        go_simp
        try with_reducible rfl
      try simp only [Act.put, List.setIfInBounds_toArray, List.set_cons_zero, List.set_cons_succ]
      refine fT_take (i := 8) (v := ?_) rfl (by kernel_rfl) (fun _ _ _ h => h) (by rfl) hS5 ?_ ?_
      rotate_left 1
      · intro wS hSw
        obtain ⟨s1, s2, s3, s4⟩ := hSw
        go_simp
        try with_reducible rfl
      try simp only [Act.put, List.setIfInBounds_toArray, List.set_cons_zero, List.set_cons_succ]
      refine wpAnyF_next (i := 9) rfl (by kernel_rfl) (fun K hK => ?_)
      go_simp
      refine hK.out _ _ (.inl rfl) ?_
      clear hK K
      try simp only [Act.put, List.setIfInBounds_toArray, List.set_cons_zero, List.set_cons_succ]
      refine wpAnyF_done (by kernel_rfl) ?_ _
      have z2 := HB2.out.size
      have z5 := bd.size
      have k6 := k5.set 0 (.slice a5 (putK It.ky (dropS S xn) ⟨d, xn, xt⟩).length c5)
      have t6 := Turn.cell1 w5 R 0 (.slice a5 (putK It.ky (dropS S xn) ⟨d, xn, xt⟩).length c5)
      have HFin : Hid (RMoveEnd w R a S N xn d (.returned (.int .i64 0)) (w5.setCell ⟨R, 0, none⟩ (.slice a5 (putK It.ky (dropS S xn) ⟨d, xn, xt⟩).length c5))) := by
        refine ⟨by rw [HE.out], ?_⟩
        rw [HM.out]
        refine rg_set H.out (cap' := c5) (a' := a5) (hs5.turn t6 (fun x e => by have := hx5 x e; rw [List.mem_singleton]; omega)) (fun x e => by have := hx5 x e; omega) ((HH.out.then (HB2.out.trans (hB5.mono z2))).trans t6) k6 (fun x e => by have := hx5 x e; right; omega)
      clear k5 k6 t6 hs5 hb5 hx5 hB5 hS5 hSd bd m5 f5
      go_wp2_with fail
      go_ret
      exact HFin.out

end Go.Proofs.Ytgcncnmkfpfccaa
