/- chattellaw01.AmountSums: the walk. -/
import Derived.Test.YtncodoaphfeefaaAmtK
namespace Go.Proofs.Ytncodoaphfeefaa
open Go.RowKit Go.Shelf Go.Lib
set_option linter.unusedVariables false
set_option linter.unusedSimpArgs false

theorem BigAt.neg {w : World} {z : Int} {s : Bool} {a : Option Addr} {l cap : Nat} (h : BigAt w z s a l cap) : BigAt w (-z) (decide (-z < 0)) a l cap :=
  ⟨rfl, by rw [Int.natAbs_neg]; exact h.hl, h.hc, h.hm, by rw [Int.natAbs_neg]; exact h.hr⟩


set_option maxHeartbeats 4000000 in
set_option maxRecDepth 100000 in
theorem sums_ok (a b : Int) (a1 : -9223372036854775808 ≤ a) (a2 : a ≤ 9223372036854775807) (b1 : -9223372036854775808 ≤ b) (b2 : b ≤ 9223372036854775807) (c : Option Addr) (cap : Nat) (xs : List Int) (hr : ∀ x ∈ xs, -9223372036854775808 ≤ x ∧ x ≤ 9223372036854775807) (w : World) (hx : RowAt w c xs.length (numV xs)) :
    Calls Try.prog 7 #[.int .i64 a, .int .i64 b, .slice c xs.length cap] w fun e w' => e = .returned (.bool true) ∧ Below w.heap.size w w' := by
  by_cases hl : 40 < xs.length
  · have hl' : 40 < (xs.length : Int) := by omega
    have d0 := Below.refl w.heap.size w
    clear hx hr hl a1 a2 b1 b2
    go_enter Try.func7, Try.ntmps7
    go_wp2_with fail
    with_reducible refine (awake_ok _).mono ?_
    rintro e w9 ⟨rfl, b9⟩
    go_wp2_with fail
    go_ret
    exact ⟨by simp, d0.trans (b9.mono d0.size)⟩
  have hl40 : (xs.length : Int) ≤ 40 := by omega
  obtain ⟨⟨n, e0⟩, v1⟩ : ∃ r, fitV (a + b) = r := ⟨_, rfl⟩
  obtain ⟨⟨m, f0⟩, v2⟩ : ∃ r, fitV (-a) = r := ⟨_, rfl⟩
  obtain ⟨⟨p, g0⟩, v3⟩ : ∃ r, fitV (a * b) = r := ⟨_, rfl⟩
  obtain ⟨⟨s, h0⟩, v4⟩ : ∃ r, fitV xs.sum = r := ⟨_, rfl⟩
  have H1 := Lib.hid (amtadd_ok a b n e0 ⟨a1, a2⟩ ⟨b1, b2⟩ v1)
  have H2 := Lib.hid (ng_ok a1 a2 v2)
  have H3 := Lib.hid (mul_ok a b p g0 a1 a2 b1 b2 v3)
  have H4 := Lib.hid (fun (w' : World) (hb : Below w.heap.size w w') => sum_fitV c cap xs s h0 w' (hx.after hb) hr (by omega) v4)
  have H5 := Lib.hid (fun (w' : World) (hb : Below w.heap.size w w') => sum_big c cap xs w' (hx.after hb) hr (by omega))
  have HA := Lib.hid (of_big a a1 a2)
  have HB := Lib.hid (of_big b b1 b2)
  have HL := Lib.hid (show blen a.natAbs ≤ 64 ∧ blen b.natAbs ≤ 64 from ⟨len_int a1 a2, len_int b1 b2⟩)
  have V1 := Lib.hid v1
  have V2 := Lib.hid v2
  have V3 := Lib.hid v3
  have V4 := Lib.hid v4
  clear a1 a2 b1 b2 v1 v2 v3 v4 hx hr hl
  go_enter Try.func7, Try.ntmps7
  go_wp2_with fail
  with_reducible refine (HA.out _).mono ?_
  rintro e w1 ⟨s1, p1, l1, k1, rfl, g1, d1, _⟩
  go_wp2_with fail
  with_reducible refine (HB.out _).mono ?_
  rintro e w2 ⟨s2, p2, l2, k2, rfl, g2, b, _⟩
  have kx2 : Blk w2 w1.heap.size #[.bool s1, .slice p1 l1 k1] _ := (Blk.new _ _ _).after b
  have b' := ((Below.refl w1.heap.size w1).alloc (Nat.le_refl _) (.cells #[.bool s1, .slice p1 l1 k1] 29)).trans (b.mono (by simp))
  have gx2 := g1.after b'
  have d2 := d1.trans (b'.mono d1.size)
  clear b b' g1 d1
  go_wp2_with fail
  obtain ⟨w3, hw3⟩ : ∃ w3, w2.alloc (.cells #[.bool s2, .slice p2 l2 k2] 29) = w3 := ⟨_, rfl⟩
  have b : Below w2.heap.size w2 w3 := by rw [← hw3]; exact (Below.refl _ _).alloc (Nat.le_refl _) _
  have ky3 : Blk w3 w2.heap.size #[.bool s2, .slice p2 l2 k2] 29 := by rw [← hw3]; exact Blk.new _ _ _
  have kx3 := kx2.after b
  have gx3 := gx2.after b
  have gy3 := g2.after b
  have d3 := d2.trans (b.mono d2.size)
  rw [hw3]
  clear b hw3 kx2 gx2 g2 d2
  with_reducible refine (H1.out _).mono ?_
  rintro e w4 ⟨rfl, b⟩
  have kx4 := kx3.after b
  have ky4 := ky3.after b
  have gx4 := gx3.after b
  have gy4 := gy3.after b
  have d4 := d3.trans (b.mono d3.size)
  clear b kx3 ky3 gx3 gy3 d3
  go_wp2_with fail
  with_reducible refine (H2.out _).mono ?_
  rintro e w5 ⟨rfl, b⟩
  have kx5 := kx4.after b
  have ky5 := ky4.after b
  have gx5 := gx4.after b
  have gy5 := gy4.after b
  have d5 := d4.trans (b.mono d4.size)
  clear b kx4 ky4 gx4 gy4 d4
  go_wp2_with fail
  with_reducible refine (H3.out _).mono ?_
  rintro e w6 ⟨rfl, b⟩
  have kx6 := kx5.after b
  have ky6 := ky5.after b
  have gx6 := gx5.after b
  have gy6 := gy5.after b
  have d6 := d5.trans (b.mono d5.size)
  clear b kx5 ky5 gx5 gy5 d5
  go_wp2_with fail
  with_reducible refine (H4.out _ d6).mono ?_
  rintro e w7 ⟨rfl, b⟩
  have kx7 := kx6.after b
  have ky7 := ky6.after b
  have gx7 := gx6.after b
  have gy7 := gy6.after b
  have d7 := d6.trans (b.mono d6.size)
  clear b kx6 ky6 gx6 gy6 d6
  have cx0 := kx7.cell 0 rfl
  have cx1 := kx7.cell 1 rfl
  have cy0 := ky7.cell 0 rfl
  have cy1 := ky7.cell 1 rfl
  go_wp2_with fail
  clear cx0 cx1 cy0 cy1
  with_reducible refine (add_big a b s1 s2 p1 p2 l1 l2 k1 k2 _ gx7 gy7 (by have := HL.out; omega) (by have := HL.out; omega)).mono ?_
  rintro e w8 ⟨t8, q8, m8, n8, rfl, g8, b, _⟩
  have kx8 := kx7.after b
  have ky8 := ky7.after b
  have gx8 := gx7.after b
  have gy8 := gy7.after b
  have d8 := d7.trans (b.mono d7.size)
  clear b kx7 ky7 gx7 gy7 d7
  go_wp2_with fail
  with_reducible refine (fits_ok n e0 (a + b) t8 q8 m8 n8 _ g8 V1.out).mono ?_
  rintro e w10 ⟨rfl, b⟩
  have kx10 := kx8.after b
  have ky10 := ky8.after b
  have gx10 := gx8.after b
  have gy10 := gy8.after b
  have d10 := d8.trans (b.mono d8.size)
  clear b kx8 ky8 gx8 gy8 d8
  clear g8
  have cx0 := kx10.cell 0 rfl
  have cx1 := kx10.cell 1 rfl
  have cy0 := ky10.cell 0 rfl
  have cy1 := ky10.cell 1 rfl
  go_wp2_with fail
  clear cx0 cx1 cy0 cy1
  with_reducible refine (neg_big a s1 p1 l1 k1 _ gx10).mono ?_
  rintro e w11 ⟨rfl, b⟩
  have kx11 := kx10.after b
  have ky11 := ky10.after b
  have gx11 := gx10.after b
  have gy11 := gy10.after b
  have d11 := d10.trans (b.mono d10.size)
  clear b kx10 ky10 gx10 gy10 d10
  obtain ⟨tn, htn⟩ : ∃ t, decide (-a < 0) = t := ⟨_, rfl⟩
  have gn := gx11.neg
  rw [htn] at gn ⊢
  clear htn
  go_wp2_with fail
  with_reducible refine (fits_ok m f0 (-a) tn p1 l1 k1 _ gn V2.out).mono ?_
  rintro e w12 ⟨rfl, b⟩
  have kx12 := kx11.after b
  have ky12 := ky11.after b
  have gx12 := gx11.after b
  have gy12 := gy11.after b
  have d12 := d11.trans (b.mono d11.size)
  clear b kx11 ky11 gx11 gy11 d11
  have cx0 := kx12.cell 0 rfl
  have cx1 := kx12.cell 1 rfl
  have cy0 := ky12.cell 0 rfl
  have cy1 := ky12.cell 1 rfl
  go_wp2_with fail
  clear cx0 cx1 cy0 cy1
  with_reducible refine (mul_big a b s1 s2 p1 p2 l1 l2 k1 k2 _ gx12 gy12 (by have := HL.out; omega) (by have := HL.out; omega)).mono ?_
  rintro e w13 ⟨t8, q8, m8, n8, rfl, g8, b, _⟩
  have kx13 := kx12.after b
  have ky13 := ky12.after b
  have gx13 := gx12.after b
  have gy13 := gy12.after b
  have d13 := d12.trans (b.mono d12.size)
  clear b kx12 ky12 gx12 gy12 d12
  go_wp2_with fail
  with_reducible refine (fits_ok p g0 (a * b) t8 q8 m8 n8 _ g8 V3.out).mono ?_
  rintro e w14 ⟨rfl, b⟩
  have kx14 := kx13.after b
  have ky14 := ky13.after b
  have gx14 := gx13.after b
  have gy14 := gy13.after b
  have d14 := d13.trans (b.mono d13.size)
  clear b kx13 ky13 gx13 gy13 d13
  clear g8
  go_wp2_with fail
  with_reducible refine (H5.out _ d14).mono ?_
  rintro e w15 ⟨t8, q8, m8, n8, rfl, g8, b, _⟩
  have kx15 := kx14.after b
  have ky15 := ky14.after b
  have gx15 := gx14.after b
  have gy15 := gy14.after b
  have d15 := d14.trans (b.mono d14.size)
  clear b kx14 ky14 gx14 gy14 d14
  go_wp2_with fail
  with_reducible refine (fits_ok s h0 xs.sum t8 q8 m8 n8 _ g8 V4.out).mono ?_
  rintro e w16 ⟨rfl, b⟩
  have kx16 := kx15.after b
  have ky16 := ky15.after b
  have gx16 := gx15.after b
  have gy16 := gy15.after b
  have d16 := d15.trans (b.mono d15.size)
  clear b kx15 ky15 gx15 gy15 d15
  clear g8
  go_wp2_with fail
  with_reducible refine (awake_ok _).mono ?_
  rintro e w9 ⟨rfl, b9⟩
  go_wp2_with fail
  go_ret
  exact ⟨by simp, d16.trans (b9.mono d16.size)⟩

open Go.ChangeShapes Go.WideShapes Go.ChangeAt in
theorem walk_AmountSums {H : Type} (enc : TypeId × Value → H) (base : Nat) (W : World) (a : Int) (wa : (Lit.int .i64 a).wf = true) (b : Int) (wb : (Lit.int .i64 b).wf = true)
    (v' : Value) (d' : DataW H) (p' : List MemPlace) (h' : DataW.Trod enc Try.prog W 0 (fun _ => true) true 27 v' d' p') (ok' : Value.okWide Try.prog W .any base 27 v') :
    Calls Try.prog 7 #[.int .i64 a, .int .i64 b, v'] W fun e w' => e = .returned (.bool true) ∧ Below W.heap.size W w' := by
  obtain ⟨c, cap, xs, rfl, hr, hx⟩ := ints_arg h' ok'
  exact sums_ok a b (wf_int wa).1 (wf_int wa).2 (wf_int wb).1 (wf_int wb).2 c cap xs hr W hx

end Go.Proofs.Ytncodoaphfeefaa
