/- The law's plain and may. -/
import Derived.Test.YtkloijkfaooodaaBitS
namespace Go.Proofs.Ytkloijkfaooodaa
open Go.RowKit Go.Shelf
set_option linter.unusedVariables false
set_option linter.unusedSimpArgs false
attribute [local go_sem ↓] Go.wp_at_zero Go.wp_at_succ

theorem put7_grown (w : World) (B : Nat) (v : Vs) : w.grownBy (put7 w B v) (some B) := by
  have h := fun (w : World) (j : Nat) (x : Value) => grown_setCell w B j x
  exact grown_trans (grown_trans (grown_trans (grown_trans (grown_trans (grown_trans (h _ _ _) (h _ _ _)) (h _ _ _)) (h _ _ _)) (h _ _ _)) (h _ _ _)) (h _ _ _)
set_option maxHeartbeats 2000000 in
theorem plain_ok12 (v : Vs) (w : World) : Calls Try.prog 29 #[.agg (encS v).toArray] w fun e w' => e = .returned (.agg (encR v).toArray) ∧ Below w.heap.size w w' := by
  have hb := Blk.new w (encS v).toArray 26
  obtain ⟨s, c, k, d, n, m, p⟩ := v
  dsimp only [encS, encR] at *
  have x0 := hb.cell 0 rfl
  have x1 := hb.cell 1 rfl
  have x2 := hb.cell 2 rfl
  have x3 := hb.cell 3 rfl
  have x4 := hb.cell 4 rfl
  have x5 := hb.cell 5 rfl
  have x6 := hb.cell 6 rfl
  clear hb
  cases c
  · go_enter Try.func29, Try.ntmps29
    go_wp2_with fail
    refine bodyPost_ret (v := .agg #[.int .i64 s, .int .i64 0, .int .i64 k, .int .i64 d, .int .i64 n, .int .i64 m, .int .i64 p]) (by simp [results, Try.results29, go_sem]) rfl ⟨rfl, (((Below.refl _ _).alloc (Nat.le_refl _) _).alloc (by simp) _).alloc (by simp; omega) _⟩
  · go_enter Try.func29, Try.ntmps29
    go_wp2_with fail
    exact bodyPost_ret (v := .agg #[.int .i64 s, .int .i64 1, .int .i64 k, .int .i64 d, .int .i64 n, .int .i64 m, .int .i64 p]) (by simp [results, Try.results29, go_sem]) rfl ⟨rfl, (((Below.refl _ _).alloc (Nat.le_refl _) _).alloc (by simp) _).alloc (by simp; omega) _⟩

def MayVEnd (w : World) (v : Vs) (e : Ending) (w' : World) : Prop := e = .returned (.tuple #[.agg (encS v.norm).toArray, .int .i64 (factE v)]) ∧ Below w.heap.size w w'
theorem below_row2 {w w1 w2 : World} {b : Nat} (h : Below w.heap.size w w1) (hg : w1.grownBy w2 (some b)) (hN : w.heap.size ≤ b) : Below w.heap.size w w2 :=
  h.grown hg h.size (fun q e => by cases e; exact hN)
set_option maxHeartbeats 8000000 in
set_option maxRecDepth 100000 in
theorem may_ok12 (v : Vs) (hn : I64 v.n) (hm : I64 v.m) (w : World) : Calls Try.prog 21 #[.agg (encS v).toArray] w (MayVEnd w v) := by
  obtain ⟨xs, xc, xk, xd, xn, xm, xp⟩ := v
  dsimp only [encS]
  dsimp only at hn hm
  obtain ⟨w0, hw0⟩ : ∃ w0, (w.alloc (.cells #[.int .i64 xs, .bool xc, .int .i64 xk, .int .i64 xd, .int .i64 xn, .int .i64 xm, .int .i64 xp] 26)).alloc (.cells #[.int .i64 0, .bool false, .int .i64 0, .int .i64 0, .int .i64 0, .int .i64 0, .int .i64 0] 26) = w0 := ⟨_, rfl⟩
  have hb0 : Below w.heap.size w w0 := by rw [← hw0]; exact ((Below.refl _ _).alloc (Nat.le_refl _) _).alloc (by simp) _
  have z0 : w0.heap.size = w.heap.size + 2 := by rw [← hw0]; simp
  have KX : Blk w0 w.heap.size #[.int .i64 xs, .bool xc, .int .i64 xk, .int .i64 xd, .int .i64 xn, .int .i64 xm, .int .i64 xp] 26 := by rw [← hw0]; exact (Blk.new _ _ _).alloc _
  have KR : Blk w0 (w.heap.size + 1) #[.int .i64 0, .bool false, .int .i64 0, .int .i64 0, .int .i64 0, .int .i64 0, .int .i64 0] 26 := by
    rw [← hw0]
    have := Blk.new (w.alloc (.cells #[.int .i64 xs, .bool xc, .int .i64 xk, .int .i64 xd, .int .i64 xn, .int .i64 xm, .int .i64 xp] 26)) #[.int .i64 0, .bool false, .int .i64 0, .int .i64 0, .int .i64 0, .int .i64 0, .int .i64 0] 26
    rw [World.size_alloc] at this
    exact this
  have HW0 := Lib.hid hw0
  have HX := Lib.hid KX
  have HR := Lib.hid KR
  have HB0 := Lib.hid hb0
  obtain ⟨E, hE⟩ : ∃ E, factE ⟨xs, xc, xk, xd, xn, xm, xp⟩ = E := ⟨_, rfl⟩
  have HE := Lib.hid hE
  clear hw0 KX KR hb0 hE
  go_enter Try.func21, Try.ntmps21
  go_wp2_with fail
  rw [HW0.out]
  with_reducible refine (new_ok _).mono ?_
  rintro e w1 ⟨p, ba, bc, rfl, hF, hb1, zq, zba, zbc⟩
  have HF1 := Lib.hid hF
  have hx1 := HX.out.after hb1
  have HX1 := Lib.hid hx1
  have HR1 := Lib.hid (HR.out.after hb1)
  have HB1 := Lib.hid (HB0.out.trans (hb1.mono HB0.out.size))
  have u1 : w1.cell? ⟨w.heap.size, 1, none⟩ = some (.bool xc) := hx1.cell 1 rfl
  clear hF hb1 hx1 HX HR HB0
  have HS : Hid (∀ W, Blk W w.heap.size #[.int .i64 xs, .bool xc, .int .i64 xk, .int .i64 xd, .int .i64 xn, .int .i64 xm, .int .i64 xp] 26 → W.cell? ⟨w.heap.size, 0, none⟩ = some (.int .i64 xs) ∧ W.cell? ⟨w.heap.size, 2, none⟩ = some (.int .i64 xk) ∧ W.cell? ⟨w.heap.size, 3, none⟩ = some (.int .i64 xd) ∧ W.cell? ⟨w.heap.size, 4, none⟩ = some (.int .i64 xn) ∧ W.cell? ⟨w.heap.size, 5, none⟩ = some (.int .i64 xm) ∧ W.cell? ⟨w.heap.size, 6, none⟩ = some (.int .i64 xp)) := fun W h => ⟨h.cell 0 rfl, h.cell 2 rfl, h.cell 3 rfl, h.cell 4 rfl, h.cell 5 rfl, h.cell 6 rfl⟩
  cases xc with
  | true =>
    have hp : ∀ W, FactsAt W p ba bc [] [] → Calls Try.prog 45 #[.pointer (some ⟨p, 0, none⟩), .agg #[.int .i64 xk, .int .i64 xd, .int .i64 xp]] W (fun e w' => e = .returned (.int .i64 E) ∧ W.grownBy w' (some bc)) := fun W hW => (choose_ok p ba bc [] [] ⟨xk, xd, xp⟩ W hW).mono fun e w' h => ⟨by rw [h.1, ← HE.out]; rfl, h.2.1⟩
    have HP := Lib.hid hp
    obtain ⟨wd, hwd⟩ : ∃ W, w1.drew = W := ⟨_, rfl⟩
    have hbd : Below w1.heap.size w1 wd := by rw [← hwd]; exact (Below.refl _ _).drew
    have hFd := HF1.out.after hbd
    have kd := HX1.out.after hbd
    have krd := HR1.out.after hbd
    have hFs := hFd.kept (put7_grown wd (w.heap.size + 1) (⟨xs, true, xk, xd, 0, 0, xp⟩ : Vs)) (by simp; omega) (by simp; omega) (by simp; omega)
    have ks := put7_far kd (show w.heap.size ≠ w.heap.size + 1 by omega) (⟨xs, true, xk, xd, 0, 0, xp⟩ : Vs)
    have krs := put7_blk (u := ⟨0, false, 0, 0, 0, 0, 0⟩) krd (⟨xs, true, xk, xd, 0, 0, xp⟩ : Vs)
    have HBd := Lib.hid (HB1.out.trans (hbd.mono HB1.out.size))
    have HBs := Lib.hid (put7_below HBd.out (show w.heap.size ≤ w.heap.size + 1 by omega) (⟨xs, true, xk, xd, 0, 0, xp⟩ : Vs))
    have zd := hbd.size
    rw [← hwd] at hFd kd krd hFs ks krs HBd HBs
    have HKR := Lib.hid krs
    simp only [put7] at hFs ks
    have b0 : w1.drew.cell? ⟨w.heap.size + 1, 0, none⟩ = some (.int .i64 0) := (krd).cell 0 rfl
    have b1 : w1.drew.cell? ⟨w.heap.size + 1, 1, none⟩ = some (.bool false) := (krd).cell 1 rfl
    have b2 : w1.drew.cell? ⟨w.heap.size + 1, 2, none⟩ = some (.int .i64 0) := (krd).cell 2 rfl
    have b3 : w1.drew.cell? ⟨w.heap.size + 1, 3, none⟩ = some (.int .i64 0) := (krd).cell 3 rfl
    have b4 : w1.drew.cell? ⟨w.heap.size + 1, 4, none⟩ = some (.int .i64 0) := (krd).cell 4 rfl
    have b5 : w1.drew.cell? ⟨w.heap.size + 1, 5, none⟩ = some (.int .i64 0) := (krd).cell 5 rfl
    have b6 : w1.drew.cell? ⟨w.heap.size + 1, 6, none⟩ = some (.int .i64 0) := (krd).cell 6 rfl
    have f0 := (krd).free 0
    have f1 := (krd).free 1
    have f2 := (krd).free 2
    have f3 := (krd).free 3
    have f4 := (krd).free 4
    have f5 := (krd).free 5
    have f6 := (krd).free 6
    clear hp hwd hbd krs
    go_wp2_with fail
    go_region_held3 (fun W => W.cell? ⟨w.heap.size, 0, none⟩ = some (.int .i64 xs) ∧ W.cell? ⟨w.heap.size, 2, none⟩ = some (.int .i64 xk) ∧ W.cell? ⟨w.heap.size, 3, none⟩ = some (.int .i64 xd) ∧ W.cell? ⟨w.heap.size, 4, none⟩ = some (.int .i64 xn) ∧ W.cell? ⟨w.heap.size, 5, none⟩ = some (.int .i64 xm) ∧ W.cell? ⟨w.heap.size, 6, none⟩ = some (.int .i64 xp))
      (first | with_reducible exact HS.out _ kd | with_reducible exact HS.out _ ks | with_reducible exact HS.out _ kf | with_reducible exact HS.out _ kfs)
      (first
        | ((go_at_call 45; (with_reducible refine (HP.out _ hFd).mono ?_); rintro e wf ⟨rfl, hgf⟩; have kf := kd.grown hgf (by simp; omega); have krf := krd.grown hgf (by simp; omega); have kfs := put7_far kf (show w.heap.size ≠ w.heap.size + 1 by omega) (⟨xs, true, xk, xd, 0, 0, xp⟩ : Vs); have krs := Lib.hid (put7_blk (u := ⟨0, false, 0, 0, 0, 0, 0⟩) krf (⟨xs, true, xk, xd, 0, 0, xp⟩ : Vs)); have bf := below_row2 HBd.out hgf (by omega); have HBF := Lib.hid (put7_below bf (show w.heap.size ≤ w.heap.size + 1 by omega) (⟨xs, true, xk, xd, 0, 0, xp⟩ : Vs)); simp only [put7] at kfs; clear b0 b1 b2 b3 b4 b5 b6 f0 f1 f2 f3 f4 f5 f6; have b0 : wf.cell? ⟨w.heap.size + 1, 0, none⟩ = some (.int .i64 0) := krf.cell 0 rfl; have b1 : wf.cell? ⟨w.heap.size + 1, 1, none⟩ = some (.bool false) := krf.cell 1 rfl; have b2 : wf.cell? ⟨w.heap.size + 1, 2, none⟩ = some (.int .i64 0) := krf.cell 2 rfl; have b3 : wf.cell? ⟨w.heap.size + 1, 3, none⟩ = some (.int .i64 0) := krf.cell 3 rfl; have b4 : wf.cell? ⟨w.heap.size + 1, 4, none⟩ = some (.int .i64 0) := krf.cell 4 rfl; have b5 : wf.cell? ⟨w.heap.size + 1, 5, none⟩ = some (.int .i64 0) := krf.cell 5 rfl; have b6 : wf.cell? ⟨w.heap.size + 1, 6, none⟩ = some (.int .i64 0) := krf.cell 6 rfl; have f0 := krf.free 0; have f1 := krf.free 1; have f2 := krf.free 2; have f3 := krf.free 3; have f4 := krf.free 4; have f5 := krf.free 5; have f6 := krf.free 6))
        | ((go_at_call 45; (with_reducible refine (HP.out _ hFs).mono ?_); rintro e wf ⟨rfl, hgf⟩; have kf := ks.grown hgf (by simp; omega); have krs := Lib.hid (HKR.out.grown hgf (by simp; omega)); have HBF := Lib.hid (below_row2 HBs.out hgf (by omega)))))
    · have kz := krs.out
      simp only [put7] at kz
      have hBz := HBF.out
      simp only [put7] at hBz
      have e0 := kz.cell 0 rfl
      have e1 := kz.cell 1 rfl
      have e2 := kz.cell 2 rfl
      have e3 := kz.cell 3 rfl
      have e4 := kz.cell 4 rfl
      have e5 := kz.cell 5 rfl
      have e6 := kz.cell 6 rfl
      go_wp2_with fail
      refine bodyPost_ret (v := .tuple #[.agg (encS (⟨xs, true, xk, xd, 0, 0, xp⟩ : Vs)).toArray, .int .i64 E]) (by simp [results, Try.results21, go_sem, e0, e1, e2, e3, e4, e5, e6, encS]) rfl ⟨by rw [HE.out]; rfl, hBz⟩
  | false =>
    have hp : ∀ W, FactsAt W p ba bc [] [] → Calls Try.prog 46 #[.pointer (some ⟨p, 0, none⟩), .agg #[.int .i64 xk, .int .i64 xd, .int .i64 xn, .int .i64 xm]] W (fun e w' => e = .returned (.int .i64 E) ∧ W.grownBy w' (some ba)) := fun W hW => (fix_ok p ba bc [] [] ⟨xk, xd, xn, xm⟩ hn hm W hW).mono fun e w' h => ⟨by rw [h.1, ← HE.out]; rfl, h.2.1⟩
    have HP := Lib.hid hp
    obtain ⟨wd, hwd⟩ : ∃ W, w1.drew = W := ⟨_, rfl⟩
    have hbd : Below w1.heap.size w1 wd := by rw [← hwd]; exact (Below.refl _ _).drew
    have hFd := HF1.out.after hbd
    have kd := HX1.out.after hbd
    have krd := HR1.out.after hbd
    have hFs := hFd.kept (put7_grown wd (w.heap.size + 1) (⟨xs, false, xk, xd, xn, xm, 0⟩ : Vs)) (by simp; omega) (by simp; omega) (by simp; omega)
    have ks := put7_far kd (show w.heap.size ≠ w.heap.size + 1 by omega) (⟨xs, false, xk, xd, xn, xm, 0⟩ : Vs)
    have krs := put7_blk (u := ⟨0, false, 0, 0, 0, 0, 0⟩) krd (⟨xs, false, xk, xd, xn, xm, 0⟩ : Vs)
    have HBd := Lib.hid (HB1.out.trans (hbd.mono HB1.out.size))
    have HBs := Lib.hid (put7_below HBd.out (show w.heap.size ≤ w.heap.size + 1 by omega) (⟨xs, false, xk, xd, xn, xm, 0⟩ : Vs))
    have zd := hbd.size
    rw [← hwd] at hFd kd krd hFs ks krs HBd HBs
    have HKR := Lib.hid krs
    simp only [put7] at hFs ks
    have b0 : w1.drew.cell? ⟨w.heap.size + 1, 0, none⟩ = some (.int .i64 0) := (krd).cell 0 rfl
    have b1 : w1.drew.cell? ⟨w.heap.size + 1, 1, none⟩ = some (.bool false) := (krd).cell 1 rfl
    have b2 : w1.drew.cell? ⟨w.heap.size + 1, 2, none⟩ = some (.int .i64 0) := (krd).cell 2 rfl
    have b3 : w1.drew.cell? ⟨w.heap.size + 1, 3, none⟩ = some (.int .i64 0) := (krd).cell 3 rfl
    have b4 : w1.drew.cell? ⟨w.heap.size + 1, 4, none⟩ = some (.int .i64 0) := (krd).cell 4 rfl
    have b5 : w1.drew.cell? ⟨w.heap.size + 1, 5, none⟩ = some (.int .i64 0) := (krd).cell 5 rfl
    have b6 : w1.drew.cell? ⟨w.heap.size + 1, 6, none⟩ = some (.int .i64 0) := (krd).cell 6 rfl
    have f0 := (krd).free 0
    have f1 := (krd).free 1
    have f2 := (krd).free 2
    have f3 := (krd).free 3
    have f4 := (krd).free 4
    have f5 := (krd).free 5
    have f6 := (krd).free 6
    clear hp hwd hbd krs
    go_wp2_with fail
    go_region_held3 (fun W => W.cell? ⟨w.heap.size, 0, none⟩ = some (.int .i64 xs) ∧ W.cell? ⟨w.heap.size, 2, none⟩ = some (.int .i64 xk) ∧ W.cell? ⟨w.heap.size, 3, none⟩ = some (.int .i64 xd) ∧ W.cell? ⟨w.heap.size, 4, none⟩ = some (.int .i64 xn) ∧ W.cell? ⟨w.heap.size, 5, none⟩ = some (.int .i64 xm) ∧ W.cell? ⟨w.heap.size, 6, none⟩ = some (.int .i64 xp))
      (first | with_reducible exact HS.out _ kd | with_reducible exact HS.out _ ks | with_reducible exact HS.out _ kf | with_reducible exact HS.out _ kfs)
      (first
        | ((go_at_call 46; (with_reducible refine (HP.out _ hFd).mono ?_); rintro e wf ⟨rfl, hgf⟩; have kf := kd.grown hgf (by simp; omega); have krf := krd.grown hgf (by simp; omega); have kfs := put7_far kf (show w.heap.size ≠ w.heap.size + 1 by omega) (⟨xs, false, xk, xd, xn, xm, 0⟩ : Vs); have krs := Lib.hid (put7_blk (u := ⟨0, false, 0, 0, 0, 0, 0⟩) krf (⟨xs, false, xk, xd, xn, xm, 0⟩ : Vs)); have bf := below_row2 HBd.out hgf (by omega); have HBF := Lib.hid (put7_below bf (show w.heap.size ≤ w.heap.size + 1 by omega) (⟨xs, false, xk, xd, xn, xm, 0⟩ : Vs)); simp only [put7] at kfs; clear b0 b1 b2 b3 b4 b5 b6 f0 f1 f2 f3 f4 f5 f6; have b0 : wf.cell? ⟨w.heap.size + 1, 0, none⟩ = some (.int .i64 0) := krf.cell 0 rfl; have b1 : wf.cell? ⟨w.heap.size + 1, 1, none⟩ = some (.bool false) := krf.cell 1 rfl; have b2 : wf.cell? ⟨w.heap.size + 1, 2, none⟩ = some (.int .i64 0) := krf.cell 2 rfl; have b3 : wf.cell? ⟨w.heap.size + 1, 3, none⟩ = some (.int .i64 0) := krf.cell 3 rfl; have b4 : wf.cell? ⟨w.heap.size + 1, 4, none⟩ = some (.int .i64 0) := krf.cell 4 rfl; have b5 : wf.cell? ⟨w.heap.size + 1, 5, none⟩ = some (.int .i64 0) := krf.cell 5 rfl; have b6 : wf.cell? ⟨w.heap.size + 1, 6, none⟩ = some (.int .i64 0) := krf.cell 6 rfl; have f0 := krf.free 0; have f1 := krf.free 1; have f2 := krf.free 2; have f3 := krf.free 3; have f4 := krf.free 4; have f5 := krf.free 5; have f6 := krf.free 6))
        | ((go_at_call 46; (with_reducible refine (HP.out _ hFs).mono ?_); rintro e wf ⟨rfl, hgf⟩; have kf := ks.grown hgf (by simp; omega); have krs := Lib.hid (HKR.out.grown hgf (by simp; omega)); have HBF := Lib.hid (below_row2 HBs.out hgf (by omega)))))
    · have kz := krs.out
      simp only [put7] at kz
      have hBz := HBF.out
      simp only [put7] at hBz
      have e0 := kz.cell 0 rfl
      have e1 := kz.cell 1 rfl
      have e2 := kz.cell 2 rfl
      have e3 := kz.cell 3 rfl
      have e4 := kz.cell 4 rfl
      have e5 := kz.cell 5 rfl
      have e6 := kz.cell 6 rfl
      go_wp2_with fail
      refine bodyPost_ret (v := .tuple #[.agg (encS (⟨xs, false, xk, xd, xn, xm, 0⟩ : Vs)).toArray, .int .i64 E]) (by simp [results, Try.results21, go_sem, e0, e1, e2, e3, e4, e5, e6, encS]) rfl ⟨by rw [HE.out]; rfl, hBz⟩

end Go.Proofs.Ytkloijkfaooodaa
