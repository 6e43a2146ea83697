/- The statement AdjustEntries: its walk. -/
import Derived.Test.YtmjgcenhgpkhiaaDoorEfE
namespace Go.Proofs.YtmjgcenhgpkhiaaDoor
open Go.RowKit Go.Sort Go.Shelf
set_option linter.unusedVariables false
set_option linter.unusedSimpArgs false
set_option maxRecDepth 100000

structure WRel (con h v : Int) (err : Int → Int) (ans : Int → EnP) (cs : List Cg) (w0 : World) (k : Nat) (wr : World) (val : Value) : Prop where
  row : RowL w0.heap.size (entsL con h v ans (cs.take k)) wr val
  be : Below w0.heap.size w0 wr
  ok : ∀ j, j < k → ∀ x, cs[j]? = some x → chE con h v err ans x = 0
theorem WRel.next {con h v : Int} {err : Int → Int} {ans : Int → EnP} {cs : List Cg} {w0 : World} {k : Nat} {c : Cg} {w7 : World} {val : Value} (hx : cs[k]? = some c) (hk : ∀ j, j < k → ∀ x, cs[j]? = some x → chE con h v err ans x = 0) (hr : rvE err ans c = 0) (hf : flE con h v c = 0)
    (ho : RowL w0.heap.size (entsL con h v ans (cs.take k) ++ rvL ans c ++ flL con h v c) w7 val) (hb : Below w0.heap.size w0 w7) : WRel con h v err ans cs w0 (k + 1) w7 val := by
  refine ⟨?_, hb, fun j hj x hxj => ?_⟩
  · rw [entsL_take con h v ans hx]
    unfold chL
    rw [← List.append_assoc]
    exact ho
  · rcases Nat.lt_or_ge j k with h1 | h1
    · exact hk j h1 x hxj
    · obtain rfl : j = k := by omega
      rw [hx] at hxj
      cases hxj
      unfold chE
      rw [if_pos hr]
      exact hf
theorem chE_rv {con h v : Int} {err : Int → Int} {ans : Int → EnP} {c : Cg} {z : Int} (hr : rvE err ans c = z) (h0 : z ≠ 0) : chE con h v err ans c = z := by
  unfold chE
  rw [hr, if_neg h0]
theorem chE_fl {con h v : Int} {err : Int → Int} {ans : Int → EnP} {c : Cg} {z : Int} (hr : rvE err ans c = 0) (hf : flE con h v c = z) : chE con h v err ans c = z := by
  unfold chE
  rw [if_pos hr, hf]

theorem EnOk.set7B {w : World} {B : Nat} {e : En} (he : EnOk w e) (hn : ∀ x, e.a = some x → B < x.block) (v0 v1 v2 v3 v4 v5 v6 : Value) :
    EnOk (((((((w.setCell ⟨B, 0, none⟩ v0).setCell ⟨B, 1, none⟩ v1).setCell ⟨B, 2, none⟩ v2).setCell ⟨B, 3, none⟩ v3).setCell ⟨B, 4, none⟩ v4).setCell ⟨B, 5, none⟩ v5).setCell ⟨B, 6, none⟩ v6) e :=
  ⟨he.ln.grown (grown7 _ _ _ _ _ _ _ _ _) (fun x hx q => by have := hn x hx; have q' := Option.some.inj q; omega), he.wf, he.few, he.nil⟩


set_option maxHeartbeats 16000000 in
theorem walk_AdjustEntries (W : World) (hR : RulesAt W) (s : Six) (a : Option Addr) (cap : Nat) (ls : List Ln) (hx : LnAt W a ls) (hw : AllWf ls) (ha : a = none → ls.length = 0 ∧ cap = 0) (hbig : ls.length ≤ 9223372036854775807) (con h v : Int) (ca : Option Addr) (cc : Nat) (cs : List Cg) (hc : SlG W 5 encG ca cc cs) (hcb : cs.length ≤ 9223372036854775807) (hwf : ∀ x ∈ cs, -9223372036854775808 ≤ x.n ∧ x.n ≤ 9223372036854775807) :
    Calls Tryd.prog 3 #[entV s a ls.length cap, .agg #[.int .i64 con, .int .i64 h, .int .i64 v], .slice ca cs.length cc] W (TrueEnd16 W) := by
  obtain ⟨v0, hv, hv0, hv1, hv2⟩ := info_parts infoEntE
  obtain ⟨c0, c1, c2, c3, c4, c5⟩ := s
  obtain ⟨w1, hw1⟩ : ∃ Z, W.alloc (.cells #[.int .i64 c0, .int .i64 c1, .int .i64 c2, .int .i64 c3, .int .i64 c4, .int .i64 c5, .slice a ls.length cap] 26) = Z := ⟨_, rfl⟩
  obtain ⟨w2, hw2⟩ : ∃ Z, w1.alloc (.cells #[.int .i64 con, .int .i64 h, .int .i64 v] 27) = Z := ⟨_, rfl⟩
  have ba : Below W.heap.size W w1 := by rw [← hw1]; exact (Below.refl _ _).alloc (Nat.le_refl _) _
  have bb : Below w1.heap.size w1 w2 := by rw [← hw2]; exact (Below.refl _ _).alloc (Nat.le_refl _) _
  have k0 : Blk w1 W.heap.size #[.int .i64 c0, .int .i64 c1, .int .i64 c2, .int .i64 c3, .int .i64 c4, .int .i64 c5, .slice a ls.length cap] 26 := by rw [← hw1]; exact Blk.new _ _ _
  have k1 : Blk w2 w1.heap.size #[.int .i64 con, .int .i64 h, .int .i64 v] 27 := by rw [← hw2]; exact Blk.new _ _ _
  have K0 := Lib.hid (k0.after bb)
  have K1 := Lib.hid k1
  have HB2 := Lib.hid (ba.trans (bb.mono ba.size))
  have HR := Lib.hid hR
  have HX := Lib.hid hx
  have HW := Lib.hid hw
  have HA := Lib.hid ha
  have HC := Lib.hid hc
  have HWF := Lib.hid hwf
  have HF : Hid (∀ Z, Calls Tryd.prog 6 #[.agg #[.int .i64 c0, .int .i64 c1, .int .i64 c2, .int .i64 c3, .int .i64 c4, .int .i64 c5, .slice a ls.length cap]] Z fun e w' => e = .returned (.bool (decide (ls.length ≤ 20))) ∧ Below Z.heap.size Z w') := fun Z => few_ok ⟨c0, c1, c2, c3, c4, c5⟩ a cap ls.length Z hbig
  unfold entV
  have a0 : w2.cell? ⟨W.heap.size, 0, none⟩ = some (.int .i64 c0) := K0.out.cell 0 rfl
  have a1 : w2.cell? ⟨W.heap.size, 1, none⟩ = some (.int .i64 c1) := K0.out.cell 1 rfl
  have a2 : w2.cell? ⟨W.heap.size, 2, none⟩ = some (.int .i64 c2) := K0.out.cell 2 rfl
  have a3 : w2.cell? ⟨W.heap.size, 3, none⟩ = some (.int .i64 c3) := K0.out.cell 3 rfl
  have a4 : w2.cell? ⟨W.heap.size, 4, none⟩ = some (.int .i64 c4) := K0.out.cell 4 rfl
  have a5 : w2.cell? ⟨W.heap.size, 5, none⟩ = some (.int .i64 c5) := K0.out.cell 5 rfl
  have a6 : w2.cell? ⟨W.heap.size, 6, none⟩ = some (.slice a ls.length cap) := K0.out.cell 6 rfl
  clear hR hx hw ha hc hwf ba bb k0 k1 hbig
  go_enter Tryd.func3, Tryd.ntmps3
  by_cases hf : ls.length ≤ 20
  rotate_left 1
  · rw [decide_eq_false hf] at HF
    go_wp2_with fail
    with_reducible refine (HF.out w2).mono ?_
    rintro e w3 ⟨rfl, hb3⟩
    go_wp2_with fail
    with_reducible refine (awake_ok w3).mono ?_
    rintro e w4 ⟨rfl, hb4⟩
    go_wp2_with fail
    go_ret
    exact ⟨rfl, HB2.out.trans ((hb3.trans (hb4.mono hb3.size)).mono HB2.out.size)⟩
  rw [decide_eq_true hf] at HF
  by_cases hcl : cs.length ≤ 20
  rotate_left 1
  · have hd1 : decide (20 < (cs.length : Int)) = true := decide_eq_true (by omega)
    have hd2 : decide (20 < cs.length) = true := decide_eq_true (by omega)
    go_wp2_with fail
    with_reducible refine (HF.out w2).mono ?_
    rintro e w3 ⟨rfl, hb3⟩
    go_wp2_with fail
    with_reducible refine (awake_ok w3).mono ?_
    rintro e w4 ⟨rfl, hb4⟩
    go_wp2_with fail
    go_ret
    exact ⟨rfl, HB2.out.trans ((hb3.trans (hb4.mono hb3.size)).mono HB2.out.size)⟩
  have hd1 : decide (20 < (cs.length : Int)) = false := decide_eq_false (by omega)
  have hd2 : decide (20 < cs.length) = false := decide_eq_false (by omega)
  go_wp2_with fail
  with_reducible refine (HF.out w2).mono ?_
  rintro e w3 ⟨rfl, hb3⟩
  clear a0 a1 a2 a3 a4 a5 a6 hw1 hw2
  have HB3 := Lib.hid (HB2.out.trans (hb3.mono HB2.out.size))
  have HE3 := Lib.hid (K0.out.after hb3)
  have HT3 := Lib.hid (K1.out.after hb3)
  have hxo : EnOk w3 ⟨⟨c0, c1, c2, c3, c4, c5⟩, a, cap, ls⟩ := ⟨HX.out.after HB3.out, HW.out, show ls.length ≤ 1000 by omega, HA.out⟩
  have hen := entries_ok con h v 9 (.agg #[.int .i64 c0, .int .i64 c1, .int .i64 c2, .int .i64 c3, .int .i64 c4, .int .i64 c5, .slice a ls.length cap]) oneErr (fun _ => ⟨⟨c0, c1, c2, c3, c4, c5⟩, ls⟩) ca cc cs w3 (HR.out.after HB3.out) (one_getter _ w3 hxo) (HC.out.after HB3.out).recs (HC.out.after HB3.out).sh (by omega) HWF.out
  have HEn := Lib.hid hen
  have HXo := Lib.hid hxo
  have a0 : w3.cell? ⟨W.heap.size, 0, none⟩ = some (.int .i64 c0) := HE3.out.cell 0 rfl
  have a1 : w3.cell? ⟨W.heap.size, 1, none⟩ = some (.int .i64 c1) := HE3.out.cell 1 rfl
  have a2 : w3.cell? ⟨W.heap.size, 2, none⟩ = some (.int .i64 c2) := HE3.out.cell 2 rfl
  have a3 : w3.cell? ⟨W.heap.size, 3, none⟩ = some (.int .i64 c3) := HE3.out.cell 3 rfl
  have a4 : w3.cell? ⟨W.heap.size, 4, none⟩ = some (.int .i64 c4) := HE3.out.cell 4 rfl
  have a5 : w3.cell? ⟨W.heap.size, 5, none⟩ = some (.int .i64 c5) := HE3.out.cell 5 rfl
  have a6 : w3.cell? ⟨W.heap.size, 6, none⟩ = some (.slice a ls.length cap) := HE3.out.cell 6 rfl
  have b0 : w3.cell? ⟨w1.heap.size, 0, none⟩ = some (.int .i64 con) := HT3.out.cell 0 rfl
  have b1 : w3.cell? ⟨w1.heap.size, 1, none⟩ = some (.int .i64 h) := HT3.out.cell 1 rfl
  have b2 : w3.cell? ⟨w1.heap.size, 2, none⟩ = some (.int .i64 v) := HT3.out.cell 2 rfl
  clear hen hxo hb3 K0 K1 HB2 HF HX
  go_wp2_with fail
  with_reducible refine HEn.out.mono ?_
  intro e w4 hfl
  obtain ⟨F, la, ln, lc, rfl, hF, hbad, hgood, hb4⟩ := hfl.flat
  clear a0 a1 a2 a3 a4 a5 a6 b0 b1 b2 hfl
  have HFF := Lib.hid hF
  have HBad := Lib.hid hbad
  have HGood := Lib.hid hgood
  have HB4 := Lib.hid (HB3.out.trans (hb4.mono HB3.out.size))
  have HE4 := Lib.hid (HE3.out.after hb4)
  have HT4 := Lib.hid (HT3.out.after hb4)
  have HXo4 := Lib.hid (HXo.out.after hb4)
  have HNil := Lib.hid (nil_entries con h v ca cs.length cc w4)
  have b0 : w4.cell? ⟨w1.heap.size, 0, none⟩ = some (.int .i64 con) := HT4.out.cell 0 rfl
  have b1 : w4.cell? ⟨w1.heap.size, 1, none⟩ = some (.int .i64 h) := HT4.out.cell 1 rfl
  have b2 : w4.cell? ⟨w1.heap.size, 2, none⟩ = some (.int .i64 v) := HT4.out.cell 2 rfl
  clear hF hbad hgood hb4 HEn HE3 HT3 HXo HB3
  go_wp2_with fail
  with_reducible refine HNil.out.mono ?_
  rintro e w5 ⟨rfl, hw5⟩
  obtain rfl : w4 = w5 := hw5
  clear HNil b0 b1 b2
  go_wp2_with fail
  obtain ⟨B3, hB3⟩ : ∃ n, W.heap.size = n := ⟨_, rfl⟩
  obtain ⟨B4, hB4⟩ : ∃ n, w1.heap.size = n := ⟨_, rfl⟩
  rw [hB3] at HE4 ⊢
  rw [hB4] at HT4 ⊢
  have HEF : Hid (∀ Z, Below w4.heap.size w4 Z → Z.cell? ⟨B3, 0, none⟩ = some (.int .i64 c0) ∧ Z.cell? ⟨B3, 1, none⟩ = some (.int .i64 c1) ∧ Z.cell? ⟨B3, 2, none⟩ = some (.int .i64 c2) ∧ Z.cell? ⟨B3, 3, none⟩ = some (.int .i64 c3) ∧ Z.cell? ⟨B3, 4, none⟩ = some (.int .i64 c4) ∧ Z.cell? ⟨B3, 5, none⟩ = some (.int .i64 c5) ∧ Z.cell? ⟨B3, 6, none⟩ = some (.slice a ls.length cap)) := fun Z hZ => ⟨(HE4.out.after hZ).cell 0 rfl, (HE4.out.after hZ).cell 1 rfl, (HE4.out.after hZ).cell 2 rfl, (HE4.out.after hZ).cell 3 rfl, (HE4.out.after hZ).cell 4 rfl, (HE4.out.after hZ).cell 5 rfl, (HE4.out.after hZ).cell 6 rfl⟩
  have HC4 := Lib.hid (HC.out.after HB4.out)
  have HR4 := Lib.hid (HR.out.after HB4.out)
  clear HC HR hB3 hB4
  go_loopw [11, 12] (fun vv i wr => ∃ k : Nat, k ≤ cs.length ∧ i = .int .i64 (k : Int) ∧ Hid (WRel con h v oneErr (fun _ => ⟨⟨c0, c1, c2, c3, c4, c5⟩, ls⟩) cs w4 k wr vv)) (fun _ i _ => cs.length - (intOf i).toNat)
  case atStart => exact ⟨0, by omega, rfl, RowL.nil _ _, Below.refl _ _, fun j hj => absurd hj (by omega)⟩
  case round =>
    obtain ⟨k, hk, rfl, HQ⟩ := hrel
    obtain ⟨a9, c9, X9, rfl, hO9, hX9, hok9, hoff9⟩ := HQ.out.row.ex
    have hl9 : X9.length ≤ 40 := by
      have h1 := entsL_len con h v (fun _ => (⟨⟨c0, c1, c2, c3, c4, c5⟩, ls⟩ : EnP)) (cs.take k)
      rw [← hX9, List.length_map, List.length_take] at h1
      omega
    have HBq := Lib.hid HQ.out.be
    have hlq : X9.length ≤ 41 := by omega
    by_cases hlt : k < cs.length
    · obtain ⟨x, hy⟩ : ∃ x, cs[k]'hlt = x := ⟨_, rfl⟩
      have hx : cs[k]? = some x := by rw [← hy]; exact List.getElem?_eq_getElem hlt
      have HXk := Lib.hid hx
      have HKk := Lib.hid HQ.out.ok
      have hwfx := HWF.out x (List.mem_of_getElem? hx)
      obtain ⟨b0, o0, rfl, hbb⟩ : ∃ b o, ca = some ⟨b, o, none⟩ ∧ b < w4.heap.size := by
        rcases HC4.out.sh with e | e
        · subst e; simp at hlt
        · exact e
      obtain ⟨no, d, cu, o, n⟩ := x
      have HCl : Hid (∀ Z, Below w4.heap.size w4 Z → Z.cell? ⟨b0, o0 + k * 5, none⟩ = some (.int .i64 no) ∧ Z.cell? ⟨b0, o0 + k * 5 + 1, none⟩ = some (.int .i64 d) ∧ Z.cell? ⟨b0, o0 + k * 5 + 2, none⟩ = some (.int .i64 cu) ∧ Z.cell? ⟨b0, o0 + k * 5 + 4, none⟩ = some (.int .i64 n)) := fun Z hZ => by
        have hXr : RecsAt Z (some ⟨b0, o0, none⟩) 5 encG cs := RowsAt.after HC4.out.recs hZ
        exact ⟨RecsAt.cell hXr rfl hlt hx (j := 0) rfl, RecsAt.cell hXr rfl hlt hx (j := 1) rfl, RecsAt.cell hXr rfl hlt hx (j := 2) rfl, RecsAt.cell hXr rfl hlt hx (j := 4) rfl⟩
      obtain ⟨q0, q1, q2, q4⟩ := HCl.out wr HQ.out.be
      have i1 : (0 : Int) ≤ (k : Int) := by omega
      have i2 : (k : Int) < (cs.length : Int) := by omega
      have HO9 := Lib.hid hO9
      have HX9 := Lib.hid hX9
      have HK9 := Lib.hid hok9
      have HF9 := Lib.hid hoff9
      clear hy hx hO9 hX9 hok9 hoff9 HQ
      by_cases hno : no = -1
      · subst hno
        have HRv : Hid (rvE oneErr (fun _ => (⟨⟨c0, c1, c2, c3, c4, c5⟩, ls⟩ : EnP)) (⟨-1, d, cu, o, n⟩ : Cg) = 0) := rfl
        obtain ⟨aq, haq⟩ : ∃ z, z = a9 := ⟨_, rfl⟩
        obtain ⟨cq, hcq⟩ : ∃ z, z = c9 := ⟨_, rfl⟩
        obtain ⟨Xq, hXq⟩ : ∃ z, z = X9 := ⟨_, rfl⟩
        subst haq hcq hXq
        have HOq := Lib.hid HO9.out
        have HKq := Lib.hid HK9.out
        have HFq := Lib.hid HF9.out
        have HXq : Hid (Xq.map En.p = entsL con h v (fun _ => (⟨⟨c0, c1, c2, c3, c4, c5⟩, ls⟩ : EnP)) (cs.take k) ++ rvL (fun _ => (⟨⟨c0, c1, c2, c3, c4, c5⟩, ls⟩ : EnP)) (⟨-1, d, cu, o, n⟩ : Cg)) := by
          show _ = _
          rw [show rvL (fun _ => (⟨⟨c0, c1, c2, c3, c4, c5⟩, ls⟩ : EnP)) (⟨-1, d, cu, o, n⟩ : Cg) = [] from if_pos rfl, List.append_nil]
          exact HX9.out
        go_upto_region 18 with fail
        by_cases hn : n = 0
        · subst hn
          go_wp2_with fail
          go_roundw
          case rel => exact ⟨k + 1, by omega, by go_num, WRel.next HXk.out HKk.out HRv.out rfl ⟨⟨aq, cq, Xq, rfl, HOq.out, (by rw [show flL con h v (⟨-1, d, cu, o, 0⟩ : Cg) = [] from if_pos rfl, List.append_nil]; exact HXq.out), HKq.out, HFq.out⟩⟩ HBq.out⟩
          case measure => simp [intOf]; omega
        · obtain ⟨FE, hFE⟩ : ∃ z, flowErr con d cu n h v = z := ⟨_, rfl⟩
          have hfh : ∀ Z, _ := fun Z => flow_hand con d cu n h v Z hwfx
          rw [hFE] at hfh
          have HFa := Lib.hid (hfh wr.drew)
          have HFb := Lib.hid (hfh (wr.alloc (.cells #[.int .i64 0, .int .i64 0, .int .i64 0, .int .i64 0, .int .i64 0, .int .i64 0, .slice none 0 0] 26)).drew)
          have HFL : Hid (flE con h v ⟨-1, d, cu, o, n⟩ = FE) := by show _ = _; unfold flE; rw [if_neg hn]; exact hFE
          have HFP : Hid (flL con h v ⟨-1, d, cu, o, n⟩ = [flowP con d cu n h v]) := by show _ = _; unfold flL; rw [if_neg hn]
          have HSx : Hid (∀ Z, Below wr.heap.size wr Z → (Z.cell? ⟨B4, 0, none⟩ = some (.int .i64 con) ∧ Z.cell? ⟨B4, 1, none⟩ = some (.int .i64 h) ∧ Z.cell? ⟨B4, 2, none⟩ = some (.int .i64 v)) ∧ Z.cell? ⟨b0, o0 + k * 5 + 1, none⟩ = some (.int .i64 d) ∧ Z.cell? ⟨b0, o0 + k * 5 + 2, none⟩ = some (.int .i64 cu) ∧ Z.cell? ⟨b0, o0 + k * 5 + 4, none⟩ = some (.int .i64 n)) := fun Z hZ => by
            have hZ4 := HBq.out.trans (hZ.mono HBq.out.size)
            obtain ⟨_, g1, g2, g4⟩ := HCl.out Z hZ4
            exact ⟨⟨(HT4.out.after hZ4).cell 0 rfl, (HT4.out.after hZ4).cell 1 rfl, (HT4.out.after hZ4).cell 2 rfl⟩, g1, g2, g4⟩
          clear hfh hFE
          go_upto_region 19 with fail
          clear q0 q1 q2 q4
          have hb0 := (Below.refl wr.heap.size wr).drew
          have hb1 := ((Below.refl wr.heap.size wr).alloc (Nat.le_refl _) (.cells #[.int .i64 0, .int .i64 0, .int .i64 0, .int .i64 0, .int .i64 0, .int .i64 0, .slice none 0 0] 26)).drew
          have kz1 := (Blk.new wr #[.int .i64 0, .int .i64 0, .int .i64 0, .int .i64 0, .int .i64 0, .int .i64 0, .slice none 0 0] 26).drew
          have HKZ := Lib.hid kz1
          clear kz1
          go_region_held3 (fun Z => (Z.cell? ⟨B4, 0, none⟩ = some (.int .i64 con) ∧ Z.cell? ⟨B4, 1, none⟩ = some (.int .i64 h) ∧ Z.cell? ⟨B4, 2, none⟩ = some (.int .i64 v)) ∧ Z.cell? ⟨b0, o0 + k * 5 + 1, none⟩ = some (.int .i64 d) ∧ Z.cell? ⟨b0, o0 + k * 5 + 2, none⟩ = some (.int .i64 cu) ∧ Z.cell? ⟨b0, o0 + k * 5 + 4, none⟩ = some (.int .i64 n))
            (first | with_reducible exact HSx.out _ hb7 | with_reducible exact HSx.out _ hb6z | with_reducible exact HSx.out _ hb6 | with_reducible exact HSx.out _ hb1 | with_reducible exact HSx.out _ hb0)
            (first
              | (go_at_call 11; (with_reducible refine HFa.out.mono ?_); rintro e w6 ⟨⟨⟨y0, y1, y2, y3, y4, y5⟩, ya, yc, yl⟩, rfl, hy6, hyn6, hyp6, hb6'⟩; dsimp only [entV]; have hb6 := hb0.trans (hb6'.mono hb0.size); have hb6z := hb6.alloc (hb6.size) (.cells #[.int .i64 0, .int .i64 0, .int .i64 0, .int .i64 0, .int .i64 0, .int .i64 0, .slice none 0 0] 26); have hb7 := hb6.alloc (hb6.size) (.cells #[.int .i64 y0, .int .i64 y1, .int .i64 y2, .int .i64 y3, .int .i64 y4, .int .i64 y5, .slice ya yl.length yc] 26); have kd := Blk.new w6 #[.int .i64 y0, .int .i64 y1, .int .i64 y2, .int .i64 y3, .int .i64 y4, .int .i64 y5, .slice ya yl.length yc] 26; have hyH := hy6.after ((Below.refl w6.heap.size w6).alloc (Nat.le_refl _) (.cells #[.int .i64 y0, .int .i64 y1, .int .i64 y2, .int .i64 y3, .int .i64 y4, .int .i64 y5, .slice ya yl.length yc] 26)); have hynH : ∀ x, ya = some x → wr.heap.size ≤ x.block := (fun x hx => by have := hyn6 x hx; simpa using this); clear hb6' hy6 hyn6)
              | (go_at_call 11; (with_reducible refine HFb.out.mono ?_); rintro e w6 ⟨⟨⟨y0, y1, y2, y3, y4, y5⟩, ya, yc, yl⟩, rfl, hy6, hyn6, hyp6, hb6'⟩; dsimp only [entV]; have hb6 := hb1.trans (hb6'.mono hb1.size); have kz6 := HKZ.out.after hb6'; have k0 := kz6.cell 0 rfl; have k1 := kz6.cell 1 rfl; have k2 := kz6.cell 2 rfl; have k3 := kz6.cell 3 rfl; have k4 := kz6.cell 4 rfl; have k5 := kz6.cell 5 rfl; have k6 := kz6.cell 6 rfl; have m0 := kz6.free 0; have m1 := kz6.free 1; have m2 := kz6.free 2; have m3 := kz6.free 3; have m4 := kz6.free 4; have m5 := kz6.free 5; have m6 := kz6.free 6; have hb7 := below_set7 hb6 (Nat.le_refl _) (.int .i64 y0) (.int .i64 y1) (.int .i64 y2) (.int .i64 y3) (.int .i64 y4) (.int .i64 y5) (.slice ya yl.length yc); have kd := kz6.set7 (.int .i64 y0) (.int .i64 y1) (.int .i64 y2) (.int .i64 y3) (.int .i64 y4) (.int .i64 y5) (.slice ya yl.length yc); have hynH : ∀ x, ya = some x → wr.heap.size ≤ x.block := (fun x hx => by have := hyn6 x hx; simp at this; omega); have hyH := hy6.set7B (B := wr.heap.size) (fun x hx => by have := hyn6 x hx; simp at this; omega) (.int .i64 y0) (.int .i64 y1) (.int .i64 y2) (.int .i64 y3) (.int .i64 y4) (.int .i64 y5) (.slice ya yl.length yc); clear hb6' hy6 hyn6))
          all_goals first
            | (obtain ⟨wH, hwH⟩ : ∃ Z, w6.alloc (.cells #[.int .i64 y0, .int .i64 y1, .int .i64 y2, .int .i64 y3, .int .i64 y4, .int .i64 y5, .slice ya yl.length yc] 26) = Z := ⟨_, rfl⟩; rw [hwH] at kd hb7 hyH ⊢; obtain ⟨BH, hBH⟩ : ∃ n, w6.heap.size = n := ⟨_, rfl⟩; rw [hBH] at kd ⊢; clear hwH hBH)
            | (obtain ⟨wH, hwH⟩ : ∃ Z, ((((((w6.setCell ⟨wr.heap.size, 0, none⟩ (.int .i64 y0)).setCell ⟨wr.heap.size, 1, none⟩ (.int .i64 y1)).setCell ⟨wr.heap.size, 2, none⟩ (.int .i64 y2)).setCell ⟨wr.heap.size, 3, none⟩ (.int .i64 y3)).setCell ⟨wr.heap.size, 4, none⟩ (.int .i64 y4)).setCell ⟨wr.heap.size, 5, none⟩ (.int .i64 y5)).setCell ⟨wr.heap.size, 6, none⟩ (.slice ya yl.length yc) = Z := ⟨_, rfl⟩; rw [hwH] at kd hb7 hyH ⊢; obtain ⟨BH, hBH⟩ : ∃ n, wr.heap.size = n := ⟨_, rfl⟩; rw [hBH] at kd ⊢; clear hwH hBH kz6 k0 k1 k2 k3 k4 k5 k6 m0 m1 m2 m3 m4 m5 m6)
          all_goals clear hb0 hb1 hb6
          all_goals
            have KH := Lib.hid kd
            have HYH := Lib.hid hyH
            have HYN := Lib.hid hynH
            have HYP := Lib.hid hyp6
            have HBH := Lib.hid hb7
            clear kd hyH hynH hyp6 hb7
            by_cases hf : FE = 0
            · subst hf
              have p0 : wH.cell? ⟨BH, 0, none⟩ = some (.int .i64 y0) := KH.out.cell 0 rfl
              have p1 : wH.cell? ⟨BH, 1, none⟩ = some (.int .i64 y1) := KH.out.cell 1 rfl
              have p2 : wH.cell? ⟨BH, 2, none⟩ = some (.int .i64 y2) := KH.out.cell 2 rfl
              have p3 : wH.cell? ⟨BH, 3, none⟩ = some (.int .i64 y3) := KH.out.cell 3 rfl
              have p4 : wH.cell? ⟨BH, 4, none⟩ = some (.int .i64 y4) := KH.out.cell 4 rfl
              have p5 : wH.cell? ⟨BH, 5, none⟩ = some (.int .i64 y5) := KH.out.cell 5 rfl
              have p6 : wH.cell? ⟨BH, 6, none⟩ = some (.slice ya yl.length yc) := KH.out.cell 6 rfl
              obtain ⟨wA, hwA⟩ : ∃ Z, wH.alloc (.cells #[.int .i64 y0, .int .i64 y1, .int .i64 y2, .int .i64 y3, .int .i64 y4, .int .i64 y5, .slice ya yl.length yc] 26) = Z := ⟨_, rfl⟩
              have bA : Below wH.heap.size wH wA := by rw [← hwA]; exact (Below.refl _ _).alloc (Nat.le_refl _) _
              have hnw := heap_alloc_new wH (.cells #[.int .i64 y0, .int .i64 y1, .int .i64 y2, .int .i64 y3, .int .i64 y4, .int .i64 y5, .slice ya yl.length yc] 26)
              rw [hwA] at hnw
              have ZA := Lib.hid (show wA.heap.size = wH.heap.size + 1 by rw [← hwA]; simp)
              have HA := Lib.hid bA
              have HOH := Lib.hid (own_after HOq.out HBH.out)
              have HKH : Hid (∀ e ∈ Xq, EnOk wH e) := fun e he => (HKq.out e he).after HBH.out
              have HLt := Lib.hid (fun g (hg : (Value.slice aq Xq.length cq).ownBlock = some g) => (own_cells HOq.out hg).2.1)
              have zH : w4.heap.size ≤ wH.heap.size := by have h1 := HBq.out.size; have h2 := HBH.out.size; omega
              clear bA
              go_wp2_with (at_builtin; refine wpList_append_lies _ rfl (.tmp 149) (.tmp 151) 31 rfl w4.heap.size 26 v0 _ 7 72 Tryd.underlying31 hv hv0 hv1 hv2 rfl (by decide) _ Xq.length _ rfl (own_after HOH.out HA.out) ⟨wH.heap.size, 0, none⟩ 1 1 [.int .i64 y0, .int .i64 y1, .int .i64 y2, .int .i64 y3, .int .i64 y4, .int .i64 y5, .slice ya yl.length yc] rfl rfl (World.news_of_block (cs := #[.int .i64 y0, .int .i64 y1, .int .i64 y2, .int .i64 y3, .int .i64 y4, .int .i64 y5, .slice ya yl.length yc]) (t := 26) (fr := (0, 0)) hnw) (by simp [Value.oneCell']) (by omega) (by unfold maxLen; omega) (by omega) (by have := ZA.out; omega) _ rfl ?_; intro g cg wG hown hgrow hat hgt; have hgrow : wA.grownBy wG (Value.slice aq Xq.length cq).ownBlock := hgrow; have hput := RowL.put (y := ⟨⟨y0, y1, y2, y3, y4, y5⟩, ya, yc, yl⟩) HOH.out HXq.out HKH.out HFq.out HLt.out zH HYH.out HYN.out HA.out hown hgrow hat; have HRw := Lib.hid hput.1; have hbG : Below w4.heap.size w4 wG := (HBq.out.trans (HBH.out.mono HBq.out.size)).trans (hput.2); skip; have HBG := Lib.hid hbG; clear hput hown hgrow hat hgt)
              clear p0 p1 p2 p3 p4 p5 p6
              go_roundw
              case rel => exact ⟨k + 1, by omega, by go_num, WRel.next HXk.out HKk.out HRv.out HFL.out (by have := HRw.out; rw [HYP.out (by first | rfl | trivial)] at this; rw [HFP.out]; exact this) HBG.out⟩
              case measure => simp [intOf]; omega
            · have hFe : F = FE := by
                rw [← HFF.out]
                have h9 := (chE_fl (z := FE) HRv.out HFL.out)
                rw [entsE_bad con h v _ _ HXk.out HKk.out (by rw [h9]; exact hf)]
                exact h9
              obtain ⟨rfl, rfl, rfl⟩ := HBad.out (by rw [hFe]; exact hf)
              subst hFe
              go_wp2_with fail
              with_reducible refine (awake_ok wH).mono ?_
              rintro e wz ⟨rfl, hbz⟩
              go_wp2_with fail
              go_ret
              exact ⟨rfl, HB4.out.trans (((HBq.out.trans (HBH.out.mono HBq.out.size)).trans (hbz.mono (HBq.out.trans (HBH.out.mono HBq.out.size)).size)).mono HB4.out.size)⟩
      · have HNo := Lib.hid hno
        by_cases h3 : no = 3
        rotate_left 1
        · have hr16 : rvE oneErr (fun _ => (⟨⟨c0, c1, c2, c3, c4, c5⟩, ls⟩ : EnP)) (⟨no, d, cu, o, n⟩ : Cg) = 16 := by
            show (if no = -1 then (0 : Int) else if oneErr no = 0 then _ else oneErr no) = 16
            rw [if_neg hno, show oneErr no = 16 from if_neg h3]
            rfl
          have hFe : F = (16 : Int) := by
            rw [← HFF.out]
            have h9 := (chE_rv (con := con) (h := h) (v := v) (z := 16) hr16 (by decide))
            rw [entsE_bad con h v _ _ HXk.out HKk.out (by rw [h9]; exact (by decide))]
            exact h9
          obtain ⟨rfl, rfl, rfl⟩ := HBad.out (by rw [hFe]; exact (by decide))
          subst hFe
          go_wp2_with fail
          with_reducible refine (awake_ok wr).mono ?_
          rintro e wz ⟨rfl, hbz⟩
          go_wp2_with fail
          go_ret
          exact ⟨rfl, HB4.out.trans ((HBq.out.trans (hbz.mono HBq.out.size)).mono HB4.out.size)⟩
        · subst h3
          clear hno HNo
          have hrv := rev_hand ⟨⟨c0, c1, c2, c3, c4, c5⟩, a, cap, ls⟩ 3 wr (HR4.out.after HBq.out) (HXo4.out.after HBq.out)
          dsimp only [entV, En.p] at hrv
          obtain ⟨RE, hRE⟩ : ∃ z, revErr ⟨c0, c1, c2, c3, c4, c5⟩ ls 3 = z := ⟨_, rfl⟩
          rw [hRE] at hrv
          have HRV := Lib.hid hrv
          have HRr : Hid (rvE oneErr (fun _ => (⟨⟨c0, c1, c2, c3, c4, c5⟩, ls⟩ : EnP)) (⟨3, d, cu, o, n⟩ : Cg) = RE) := by
            show (if (3 : Int) = -1 then (0 : Int) else if oneErr 3 = 0 then revErr ⟨c0, c1, c2, c3, c4, c5⟩ ls 3 else oneErr 3) = RE
            rw [if_neg (by decide), if_pos (show oneErr 3 = 0 from rfl)]
            exact hRE
          have HO0 := Lib.hid HO9.out
          obtain ⟨g0, g1, g2, g3, g4, g5, g6⟩ := HEF.out wr HBq.out
          clear hrv hRE
          go_wp2_with fail
          with_reducible refine HRV.out.mono ?_
          rintro e w5 ⟨⟨⟨y0, y1, y2, y3, y4, y5⟩, ya, yc, yl⟩, rfl, hy6, hyn6, hyp6, hb6⟩
          dsimp only [entV]
          clear g0 g1 g2 g3 g4 g5 g6 q0 q1 q2 q4
          obtain ⟨wH, hwH⟩ : ∃ Z, w5.alloc (.cells #[.int .i64 y0, .int .i64 y1, .int .i64 y2, .int .i64 y3, .int .i64 y4, .int .i64 y5, .slice ya yl.length yc] 26) = Z := ⟨_, rfl⟩
          have bH : Below w5.heap.size w5 wH := by rw [← hwH]; exact (Below.refl _ _).alloc (Nat.le_refl _) _
          have kd : Blk wH w5.heap.size #[.int .i64 y0, .int .i64 y1, .int .i64 y2, .int .i64 y3, .int .i64 y4, .int .i64 y5, .slice ya yl.length yc] 26 := by rw [← hwH]; exact Blk.new _ _ _
          have KH := Lib.hid kd
          have HBH := Lib.hid (hb6.trans (bH.mono hb6.size))
          have HYH := Lib.hid (hy6.after bH)
          have HYN := Lib.hid hyn6
          have HYP := Lib.hid hyp6
          have HWH := Lib.hid hwH
          clear hwH bH kd hb6 hy6 hyn6 hyp6
          by_cases hre : RE = 0
          · subst hre
            obtain ⟨aq, haq⟩ : ∃ z, z = a9 := ⟨_, rfl⟩
            obtain ⟨cq, hcq⟩ : ∃ z, z = c9 := ⟨_, rfl⟩
            obtain ⟨Xq, hXq⟩ : ∃ z, z = X9 := ⟨_, rfl⟩
            subst haq hcq hXq
            have HOq := Lib.hid HO9.out
            have HKq := Lib.hid HK9.out
            have HFq := Lib.hid HF9.out
            have HXq := Lib.hid HX9.out
            go_upto_region 17 with fail
            rw [HWH.out]
            obtain ⟨BH, hBH⟩ : ∃ n, w5.heap.size = n := ⟨_, rfl⟩
            rw [hBH] at KH ⊢
            clear hBH
            have p0 : wH.cell? ⟨BH, 0, none⟩ = some (.int .i64 y0) := KH.out.cell 0 rfl
            have p1 : wH.cell? ⟨BH, 1, none⟩ = some (.int .i64 y1) := KH.out.cell 1 rfl
            have p2 : wH.cell? ⟨BH, 2, none⟩ = some (.int .i64 y2) := KH.out.cell 2 rfl
            have p3 : wH.cell? ⟨BH, 3, none⟩ = some (.int .i64 y3) := KH.out.cell 3 rfl
            have p4 : wH.cell? ⟨BH, 4, none⟩ = some (.int .i64 y4) := KH.out.cell 4 rfl
            have p5 : wH.cell? ⟨BH, 5, none⟩ = some (.int .i64 y5) := KH.out.cell 5 rfl
            have p6 : wH.cell? ⟨BH, 6, none⟩ = some (.slice ya yl.length yc) := KH.out.cell 6 rfl
            obtain ⟨wA, hwA⟩ : ∃ Z, wH.alloc (.cells #[.int .i64 y0, .int .i64 y1, .int .i64 y2, .int .i64 y3, .int .i64 y4, .int .i64 y5, .slice ya yl.length yc] 26) = Z := ⟨_, rfl⟩
            have bA : Below wH.heap.size wH wA := by rw [← hwA]; exact (Below.refl _ _).alloc (Nat.le_refl _) _
            have hnw := heap_alloc_new wH (.cells #[.int .i64 y0, .int .i64 y1, .int .i64 y2, .int .i64 y3, .int .i64 y4, .int .i64 y5, .slice ya yl.length yc] 26)
            rw [hwA] at hnw
            have ZA := Lib.hid (show wA.heap.size = wH.heap.size + 1 by rw [← hwA]; simp)
            have HA := Lib.hid bA
            have HOH := Lib.hid (own_after HOq.out HBH.out)
            have HKH : Hid (∀ e ∈ Xq, EnOk wH e) := fun e he => (HKq.out e he).after HBH.out
            have HLt := Lib.hid (fun g (hg : (Value.slice aq Xq.length cq).ownBlock = some g) => (own_cells HOq.out hg).2.1)
            have zH : w4.heap.size ≤ wH.heap.size := by have h1 := HBq.out.size; have h2 := HBH.out.size; omega
            clear bA
            go_upto_region 18 with (at_builtin; refine wpList_append_lies _ rfl (.tmp 100) (.tmp 102) 31 rfl w4.heap.size 26 v0 _ 7 72 Tryd.underlying31 hv hv0 hv1 hv2 rfl (by decide) _ Xq.length _ rfl (own_after HOH.out HA.out) ⟨wH.heap.size, 0, none⟩ 1 1 [.int .i64 y0, .int .i64 y1, .int .i64 y2, .int .i64 y3, .int .i64 y4, .int .i64 y5, .slice ya yl.length yc] rfl rfl (World.news_of_block (cs := #[.int .i64 y0, .int .i64 y1, .int .i64 y2, .int .i64 y3, .int .i64 y4, .int .i64 y5, .slice ya yl.length yc]) (t := 26) (fr := (0, 0)) hnw) (by simp [Value.oneCell']) (by omega) (by unfold maxLen; omega) (by omega) (by have := ZA.out; omega) _ rfl ?_; intro g cg wG hown hgrow hat hgt; have hgrow : wA.grownBy wG (Value.slice aq Xq.length cq).ownBlock := hgrow; have hput := RowL.put (y := ⟨⟨y0, y1, y2, y3, y4, y5⟩, ya, yc, yl⟩) HOH.out HXq.out HKH.out HFq.out HLt.out zH HYH.out HYN.out HA.out hown hgrow hat; have HRw := Lib.hid hput.1; have hbG : Below w4.heap.size w4 wG := (HBq.out.trans (HBH.out.mono HBq.out.size)).trans (hput.2); skip; have HBG := Lib.hid hbG; clear hput hown hgrow hat hgt)
            clear p0 p1 p2 p3 p4 p5 p6
            rw [HYP.out (by first | rfl | trivial)] at HRw
            obtain ⟨v2, hv2⟩ : ∃ z, Value.slice (some ⟨g, 0, none⟩) (Xq.length + 1) cg = z := ⟨_, rfl⟩
            rw [hv2] at HRw ⊢
            clear hv2 HOq HKq HFq HXq HO9 HK9 HF9 HX9 HO0
            obtain ⟨aq, cq, Xq, rfl, hOq, hXq, hokq, hoffq⟩ := HRw.out.ex
            have hlq : Xq.length ≤ 41 := by
              have h1 := entsL_len con h v (fun _ => (⟨⟨c0, c1, c2, c3, c4, c5⟩, ls⟩ : EnP)) (cs.take k)
              have h2 : Xq.length = (entsL con h v (fun _ => (⟨⟨c0, c1, c2, c3, c4, c5⟩, ls⟩ : EnP)) (cs.take k)).length + 1 := by
                have := congrArg List.length hXq
                simpa using this
              rw [List.length_take] at h1
              omega
            have HOq := Lib.hid hOq
            have HKq := Lib.hid hokq
            have HFq := Lib.hid hoffq
            have HXq : Hid (Xq.map En.p = entsL con h v (fun _ => (⟨⟨c0, c1, c2, c3, c4, c5⟩, ls⟩ : EnP)) (cs.take k) ++ rvL (fun _ => (⟨⟨c0, c1, c2, c3, c4, c5⟩, ls⟩ : EnP)) (⟨3, d, cu, o, n⟩ : Cg)) := by
              show _ = _
              rw [show rvL (fun _ => (⟨⟨c0, c1, c2, c3, c4, c5⟩, ls⟩ : EnP)) (⟨3, d, cu, o, n⟩ : Cg) = [revP ⟨⟨c0, c1, c2, c3, c4, c5⟩, ls⟩ 3] from if_neg (show ¬ (3 : Int) = -1 by decide)]
              exact hXq
            have HBq := Lib.hid HBG.out
            have HRv := Lib.hid HRr.out
            obtain ⟨q0, q1, q2, q4⟩ := HCl.out wG HBG.out
            clear hOq hokq hoffq hXq HRw HA HOH HKH HLt ZA KH HBH HYH HYN HYP HWH HRV
            by_cases hn : n = 0
            · subst hn
              go_wp2_with fail
              go_roundw
              case rel => exact ⟨k + 1, by omega, by go_num, WRel.next HXk.out HKk.out HRv.out rfl ⟨⟨aq, cq, Xq, rfl, HOq.out, (by rw [show flL con h v (⟨3, d, cu, o, 0⟩ : Cg) = [] from if_pos rfl, List.append_nil]; exact HXq.out), HKq.out, HFq.out⟩⟩ HBq.out⟩
              case measure => simp [intOf]; omega
            · obtain ⟨FE, hFE⟩ : ∃ z, flowErr con d cu n h v = z := ⟨_, rfl⟩
              have hfh : ∀ Z, _ := fun Z => flow_hand con d cu n h v Z hwfx
              rw [hFE] at hfh
              have HFa := Lib.hid (hfh wG.drew)
              have HFb := Lib.hid (hfh (wG.alloc (.cells #[.int .i64 0, .int .i64 0, .int .i64 0, .int .i64 0, .int .i64 0, .int .i64 0, .slice none 0 0] 26)).drew)
              have HFL : Hid (flE con h v ⟨3, d, cu, o, n⟩ = FE) := by show _ = _; unfold flE; rw [if_neg hn]; exact hFE
              have HFP : Hid (flL con h v ⟨3, d, cu, o, n⟩ = [flowP con d cu n h v]) := by show _ = _; unfold flL; rw [if_neg hn]
              have HSx : Hid (∀ Z, Below wG.heap.size wG Z → (Z.cell? ⟨B4, 0, none⟩ = some (.int .i64 con) ∧ Z.cell? ⟨B4, 1, none⟩ = some (.int .i64 h) ∧ Z.cell? ⟨B4, 2, none⟩ = some (.int .i64 v)) ∧ Z.cell? ⟨b0, o0 + k * 5 + 1, none⟩ = some (.int .i64 d) ∧ Z.cell? ⟨b0, o0 + k * 5 + 2, none⟩ = some (.int .i64 cu) ∧ Z.cell? ⟨b0, o0 + k * 5 + 4, none⟩ = some (.int .i64 n)) := fun Z hZ => by
                have hZ4 := HBq.out.trans (hZ.mono HBq.out.size)
                obtain ⟨_, g1, g2, g4⟩ := HCl.out Z hZ4
                exact ⟨⟨(HT4.out.after hZ4).cell 0 rfl, (HT4.out.after hZ4).cell 1 rfl, (HT4.out.after hZ4).cell 2 rfl⟩, g1, g2, g4⟩
              clear hfh hFE
              go_upto_region 19 with fail
              clear q0 q1 q2 q4
              have hb0 := (Below.refl wG.heap.size wG).drew
              have hb1 := ((Below.refl wG.heap.size wG).alloc (Nat.le_refl _) (.cells #[.int .i64 0, .int .i64 0, .int .i64 0, .int .i64 0, .int .i64 0, .int .i64 0, .slice none 0 0] 26)).drew
              have kz1 := (Blk.new wG #[.int .i64 0, .int .i64 0, .int .i64 0, .int .i64 0, .int .i64 0, .int .i64 0, .slice none 0 0] 26).drew
              have HKZ := Lib.hid kz1
              clear kz1
              go_region_held3 (fun Z => (Z.cell? ⟨B4, 0, none⟩ = some (.int .i64 con) ∧ Z.cell? ⟨B4, 1, none⟩ = some (.int .i64 h) ∧ Z.cell? ⟨B4, 2, none⟩ = some (.int .i64 v)) ∧ Z.cell? ⟨b0, o0 + k * 5 + 1, none⟩ = some (.int .i64 d) ∧ Z.cell? ⟨b0, o0 + k * 5 + 2, none⟩ = some (.int .i64 cu) ∧ Z.cell? ⟨b0, o0 + k * 5 + 4, none⟩ = some (.int .i64 n))
                (first | with_reducible exact HSx.out _ hb7 | with_reducible exact HSx.out _ hb6z | with_reducible exact HSx.out _ hb6 | with_reducible exact HSx.out _ hb1 | with_reducible exact HSx.out _ hb0)
                (first
                  | (go_at_call 11; (with_reducible refine HFa.out.mono ?_); rintro e w6 ⟨⟨⟨y0, y1, y2, y3, y4, y5⟩, ya, yc, yl⟩, rfl, hy6, hyn6, hyp6, hb6'⟩; dsimp only [entV]; have hb6 := hb0.trans (hb6'.mono hb0.size); have hb6z := hb6.alloc (hb6.size) (.cells #[.int .i64 0, .int .i64 0, .int .i64 0, .int .i64 0, .int .i64 0, .int .i64 0, .slice none 0 0] 26); have hb7 := hb6.alloc (hb6.size) (.cells #[.int .i64 y0, .int .i64 y1, .int .i64 y2, .int .i64 y3, .int .i64 y4, .int .i64 y5, .slice ya yl.length yc] 26); have kd := Blk.new w6 #[.int .i64 y0, .int .i64 y1, .int .i64 y2, .int .i64 y3, .int .i64 y4, .int .i64 y5, .slice ya yl.length yc] 26; have hyH := hy6.after ((Below.refl w6.heap.size w6).alloc (Nat.le_refl _) (.cells #[.int .i64 y0, .int .i64 y1, .int .i64 y2, .int .i64 y3, .int .i64 y4, .int .i64 y5, .slice ya yl.length yc] 26)); have hynH : ∀ x, ya = some x → wG.heap.size ≤ x.block := (fun x hx => by have := hyn6 x hx; simpa using this); clear hb6' hy6 hyn6)
                  | (go_at_call 11; (with_reducible refine HFb.out.mono ?_); rintro e w6 ⟨⟨⟨y0, y1, y2, y3, y4, y5⟩, ya, yc, yl⟩, rfl, hy6, hyn6, hyp6, hb6'⟩; dsimp only [entV]; have hb6 := hb1.trans (hb6'.mono hb1.size); have kz6 := HKZ.out.after hb6'; have k0 := kz6.cell 0 rfl; have k1 := kz6.cell 1 rfl; have k2 := kz6.cell 2 rfl; have k3 := kz6.cell 3 rfl; have k4 := kz6.cell 4 rfl; have k5 := kz6.cell 5 rfl; have k6 := kz6.cell 6 rfl; have m0 := kz6.free 0; have m1 := kz6.free 1; have m2 := kz6.free 2; have m3 := kz6.free 3; have m4 := kz6.free 4; have m5 := kz6.free 5; have m6 := kz6.free 6; have hb7 := below_set7 hb6 (Nat.le_refl _) (.int .i64 y0) (.int .i64 y1) (.int .i64 y2) (.int .i64 y3) (.int .i64 y4) (.int .i64 y5) (.slice ya yl.length yc); have kd := kz6.set7 (.int .i64 y0) (.int .i64 y1) (.int .i64 y2) (.int .i64 y3) (.int .i64 y4) (.int .i64 y5) (.slice ya yl.length yc); have hynH : ∀ x, ya = some x → wG.heap.size ≤ x.block := (fun x hx => by have := hyn6 x hx; simp at this; omega); have hyH := hy6.set7B (B := wG.heap.size) (fun x hx => by have := hyn6 x hx; simp at this; omega) (.int .i64 y0) (.int .i64 y1) (.int .i64 y2) (.int .i64 y3) (.int .i64 y4) (.int .i64 y5) (.slice ya yl.length yc); clear hb6' hy6 hyn6))
              all_goals first
                | (obtain ⟨wH, hwH⟩ : ∃ Z, w6.alloc (.cells #[.int .i64 y0, .int .i64 y1, .int .i64 y2, .int .i64 y3, .int .i64 y4, .int .i64 y5, .slice ya yl.length yc] 26) = Z := ⟨_, rfl⟩; rw [hwH] at kd hb7 hyH ⊢; obtain ⟨BH, hBH⟩ : ∃ n, w6.heap.size = n := ⟨_, rfl⟩; rw [hBH] at kd ⊢; clear hwH hBH)
                | (obtain ⟨wH, hwH⟩ : ∃ Z, ((((((w6.setCell ⟨wG.heap.size, 0, none⟩ (.int .i64 y0)).setCell ⟨wG.heap.size, 1, none⟩ (.int .i64 y1)).setCell ⟨wG.heap.size, 2, none⟩ (.int .i64 y2)).setCell ⟨wG.heap.size, 3, none⟩ (.int .i64 y3)).setCell ⟨wG.heap.size, 4, none⟩ (.int .i64 y4)).setCell ⟨wG.heap.size, 5, none⟩ (.int .i64 y5)).setCell ⟨wG.heap.size, 6, none⟩ (.slice ya yl.length yc) = Z := ⟨_, rfl⟩; rw [hwH] at kd hb7 hyH ⊢; obtain ⟨BH, hBH⟩ : ∃ n, wG.heap.size = n := ⟨_, rfl⟩; rw [hBH] at kd ⊢; clear hwH hBH kz6 k0 k1 k2 k3 k4 k5 k6 m0 m1 m2 m3 m4 m5 m6)
              all_goals clear hb0 hb1 hb6
              all_goals
                have KH := Lib.hid kd
                have HYH := Lib.hid hyH
                have HYN := Lib.hid hynH
                have HYP := Lib.hid hyp6
                have HBH := Lib.hid hb7
                clear kd hyH hynH hyp6 hb7
                by_cases hf : FE = 0
                · subst hf
                  have p0 : wH.cell? ⟨BH, 0, none⟩ = some (.int .i64 y0) := KH.out.cell 0 rfl
                  have p1 : wH.cell? ⟨BH, 1, none⟩ = some (.int .i64 y1) := KH.out.cell 1 rfl
                  have p2 : wH.cell? ⟨BH, 2, none⟩ = some (.int .i64 y2) := KH.out.cell 2 rfl
                  have p3 : wH.cell? ⟨BH, 3, none⟩ = some (.int .i64 y3) := KH.out.cell 3 rfl
                  have p4 : wH.cell? ⟨BH, 4, none⟩ = some (.int .i64 y4) := KH.out.cell 4 rfl
                  have p5 : wH.cell? ⟨BH, 5, none⟩ = some (.int .i64 y5) := KH.out.cell 5 rfl
                  have p6 : wH.cell? ⟨BH, 6, none⟩ = some (.slice ya yl.length yc) := KH.out.cell 6 rfl
                  obtain ⟨wA, hwA⟩ : ∃ Z, wH.alloc (.cells #[.int .i64 y0, .int .i64 y1, .int .i64 y2, .int .i64 y3, .int .i64 y4, .int .i64 y5, .slice ya yl.length yc] 26) = Z := ⟨_, rfl⟩
                  have bA : Below wH.heap.size wH wA := by rw [← hwA]; exact (Below.refl _ _).alloc (Nat.le_refl _) _
                  have hnw := heap_alloc_new wH (.cells #[.int .i64 y0, .int .i64 y1, .int .i64 y2, .int .i64 y3, .int .i64 y4, .int .i64 y5, .slice ya yl.length yc] 26)
                  rw [hwA] at hnw
                  have ZA := Lib.hid (show wA.heap.size = wH.heap.size + 1 by rw [← hwA]; simp)
                  have HA := Lib.hid bA
                  have HOH := Lib.hid (own_after HOq.out HBH.out)
                  have HKH : Hid (∀ e ∈ Xq, EnOk wH e) := fun e he => (HKq.out e he).after HBH.out
                  have HLt := Lib.hid (fun g (hg : (Value.slice aq Xq.length cq).ownBlock = some g) => (own_cells HOq.out hg).2.1)
                  have zH : w4.heap.size ≤ wH.heap.size := by have h1 := HBq.out.size; have h2 := HBH.out.size; omega
                  clear bA
                  go_wp2_with (at_builtin; refine wpList_append_lies _ rfl (.tmp 149) (.tmp 151) 31 rfl w4.heap.size 26 v0 _ 7 72 Tryd.underlying31 hv hv0 hv1 hv2 rfl (by decide) _ Xq.length _ rfl (own_after HOH.out HA.out) ⟨wH.heap.size, 0, none⟩ 1 1 [.int .i64 y0, .int .i64 y1, .int .i64 y2, .int .i64 y3, .int .i64 y4, .int .i64 y5, .slice ya yl.length yc] rfl rfl (World.news_of_block (cs := #[.int .i64 y0, .int .i64 y1, .int .i64 y2, .int .i64 y3, .int .i64 y4, .int .i64 y5, .slice ya yl.length yc]) (t := 26) (fr := (0, 0)) hnw) (by simp [Value.oneCell']) (by omega) (by unfold maxLen; omega) (by omega) (by have := ZA.out; omega) _ rfl ?_; intro g cg wG hown hgrow hat hgt; have hgrow : wA.grownBy wG (Value.slice aq Xq.length cq).ownBlock := hgrow; have hput := RowL.put (y := ⟨⟨y0, y1, y2, y3, y4, y5⟩, ya, yc, yl⟩) HOH.out HXq.out HKH.out HFq.out HLt.out zH HYH.out HYN.out HA.out hown hgrow hat; have HRw := Lib.hid hput.1; have hbG : Below w4.heap.size w4 wG := (HBq.out.trans (HBH.out.mono HBq.out.size)).trans (hput.2); skip; have HBG := Lib.hid hbG; clear hput hown hgrow hat hgt)
                  clear p0 p1 p2 p3 p4 p5 p6
                  go_roundw
                  case rel => exact ⟨k + 1, by omega, by go_num, WRel.next HXk.out HKk.out HRv.out HFL.out (by have := HRw.out; rw [HYP.out (by first | rfl | trivial)] at this; rw [HFP.out]; exact this) HBG.out⟩
                  case measure => simp [intOf]; omega
                · have hFe : F = FE := by
                    rw [← HFF.out]
                    have h9 := (chE_fl (z := FE) HRv.out HFL.out)
                    rw [entsE_bad con h v _ _ HXk.out HKk.out (by rw [h9]; exact hf)]
                    exact h9
                  obtain ⟨rfl, rfl, rfl⟩ := HBad.out (by rw [hFe]; exact hf)
                  subst hFe
                  go_wp2_with fail
                  with_reducible refine (awake_ok wH).mono ?_
                  rintro e wz ⟨rfl, hbz⟩
                  go_wp2_with fail
                  go_ret
                  exact ⟨rfl, HB4.out.trans (((HBq.out.trans (HBH.out.mono HBq.out.size)).trans (hbz.mono (HBq.out.trans (HBH.out.mono HBq.out.size)).size)).mono HB4.out.size)⟩
          · have hFe : F = RE := by
              rw [← HFF.out]
              have h9 := (chE_rv (con := con) (h := h) (v := v) (z := RE) HRr.out hre)
              rw [entsE_bad con h v _ _ HXk.out HKk.out (by rw [h9]; exact hre)]
              exact h9
            obtain ⟨rfl, rfl, rfl⟩ := HBad.out (by rw [hFe]; exact hre)
            subst hFe
            go_wp2_with fail
            rw [HWH.out]
            with_reducible refine (awake_ok wH).mono ?_
            rintro e wz ⟨rfl, hbz⟩
            go_wp2_with fail
            go_ret
            exact ⟨rfl, HB4.out.trans (((HBq.out.trans (HBH.out.mono HBq.out.size)).trans (hbz.mono (HBq.out.trans (HBH.out.mono HBq.out.size)).size)).mono HB4.out.size)⟩
    · obtain rfl : k = cs.length := by omega
      have hF0 : F = 0 := by
        rw [← HFF.out]
        exact entsE_ok con h v _ _ (fun j x hj => HQ.out.ok j (List.getElem?_eq_some_iff.1 hj).1 x hj)
      obtain ⟨X, hXl, hXp, hXs, hXo⟩ := HGood.out hF0
      subst hF0
      subst hXl
      have hp : X9.map En.p = X.map En.p := by rw [hX9, List.take_length, hXp]
      have hlen : X9.length = X.length := by have := congrArg List.length hp; simpa using this
      obtain ⟨a8, c8, e8, hsl, _⟩ := sl_own (enc := En.cs) En.len7 hO9
      cases e8
      have HS9 := Lib.hid hsl
      have HK9 := Lib.hid hok9
      have HP9 := Lib.hid hp
      have HLn := Lib.hid hlen
      have HSX := Lib.hid (hXs.after HBq.out)
      have HKX : Hid (∀ e ∈ X, EnOk wr e) := fun e he => (hXo e he).after HBq.out
      have hX40 : X.length ≤ 41 := by omega
      clear hO9 hX9 hok9 hoff9 hXp hXs hXo hp hsl HQ
      rw [hlen]
      clear hlen hl9 hlq
      obtain ⟨w7, hw7⟩ : ∃ w7, w7 = wr := ⟨_, rfl⟩
      subst hw7
      go_wp2_with fail
      go_loopw [17] (fun i wi => ∃ j : Nat, j ≤ X.length ∧ i = .int .i64 (j : Int) ∧ Below w7.heap.size w7 wi) (fun i _ => X.length - (intOf i).toNat)
      case atStart => exact ⟨0, by omega, rfl, Below.refl _ _⟩
      case round =>
        obtain ⟨j, hj, rfl, hbj⟩ := hrel
        by_cases hlt2 : j < X.length
        · have hj9 : j < X9.length := by have := HLn.out; omega
          obtain ⟨x, hx1⟩ : ∃ x, X[j]'hlt2 = x := ⟨_, rfl⟩
          obtain ⟨y, hy1⟩ : ∃ y, X9[j]'hj9 = y := ⟨_, rfl⟩
          have hx : X[j]? = some x := by rw [← hx1]; exact List.getElem?_eq_getElem hlt2
          have hy : X9[j]? = some y := by rw [← hy1]; exact List.getElem?_eq_getElem hj9
          have hxy : y.p = x.p := by
            have h1 : (X9.map En.p)[j]? = (X.map En.p)[j]? := by rw [HP9.out]
            rw [List.getElem?_map, List.getElem?_map, hx, hy] at h1
            simpa using h1
          have hxk := (HKX.out x (List.mem_of_getElem? hx)).after hbj
          have hyk := (HK9.out y (List.mem_of_getElem? hy)).after hbj
          obtain ⟨⟨x0, x1, x2, x3, x4, x5⟩, xa, xc, xl⟩ := x
          obtain ⟨⟨y0, y1, y2, y3, y4, y5⟩, ya, yc, yl⟩ := y
          replace hxy := hxy.symm
          simp only [En.p, EnP.mk.injEq, Six.mk.injEq] at hxy
          obtain ⟨⟨rfl, rfl, rfl, rfl, rfl, rfl⟩, rfl⟩ := hxy
          obtain ⟨b1, o1, rfl, _⟩ := HSX.out.recs (by omega)
          obtain ⟨b2, o2, rfl, _⟩ := HS9.out.recs (by omega)
          have HSx : Hid (∀ Z, Below wr.heap.size wr Z → (Z.cell? ⟨b1, o1 + j * 7, none⟩ = some (.int .i64 x0) ∧ Z.cell? ⟨b1, o1 + j * 7 + 1, none⟩ = some (.int .i64 x1) ∧ Z.cell? ⟨b1, o1 + j * 7 + 2, none⟩ = some (.int .i64 x2) ∧ Z.cell? ⟨b1, o1 + j * 7 + 3, none⟩ = some (.int .i64 x3) ∧ Z.cell? ⟨b1, o1 + j * 7 + 4, none⟩ = some (.int .i64 x4) ∧ Z.cell? ⟨b1, o1 + j * 7 + 5, none⟩ = some (.int .i64 x5) ∧ Z.cell? ⟨b1, o1 + j * 7 + 6, none⟩ = some (.slice xa xl.length xc)) ∧ Z.cell? ⟨b2, o2 + j * 7, none⟩ = some (.int .i64 x0) ∧ Z.cell? ⟨b2, o2 + j * 7 + 1, none⟩ = some (.int .i64 x1) ∧ Z.cell? ⟨b2, o2 + j * 7 + 2, none⟩ = some (.int .i64 x2) ∧ Z.cell? ⟨b2, o2 + j * 7 + 3, none⟩ = some (.int .i64 x3) ∧ Z.cell? ⟨b2, o2 + j * 7 + 4, none⟩ = some (.int .i64 x4) ∧ Z.cell? ⟨b2, o2 + j * 7 + 5, none⟩ = some (.int .i64 x5) ∧ Z.cell? ⟨b2, o2 + j * 7 + 6, none⟩ = some (.slice ya xl.length yc)) := fun Z hZ => by
            have hZ7 := hbj.trans (hZ.mono hbj.size)
            have hXr : RecsAt Z (some ⟨b1, o1, none⟩) 7 En.cs X := RowsAt.after HSX.out.recs hZ7
            have hYr : RecsAt Z (some ⟨b2, o2, none⟩) 7 En.cs X9 := RowsAt.after HS9.out.recs hZ7
            exact ⟨⟨RecsAt.cell hXr rfl hlt2 hx (j := 0) rfl, RecsAt.cell hXr rfl hlt2 hx (j := 1) rfl, RecsAt.cell hXr rfl hlt2 hx (j := 2) rfl, RecsAt.cell hXr rfl hlt2 hx (j := 3) rfl, RecsAt.cell hXr rfl hlt2 hx (j := 4) rfl, RecsAt.cell hXr rfl hlt2 hx (j := 5) rfl, RecsAt.cell hXr rfl hlt2 hx (j := 6) rfl⟩, RecsAt.cell hYr rfl hj9 hy (j := 0) rfl, RecsAt.cell hYr rfl hj9 hy (j := 1) rfl, RecsAt.cell hYr rfl hj9 hy (j := 2) rfl, RecsAt.cell hYr rfl hj9 hy (j := 3) rfl, RecsAt.cell hYr rfl hj9 hy (j := 4) rfl, RecsAt.cell hYr rfl hj9 hy (j := 5) rfl, RecsAt.cell hYr rfl hj9 hy (j := 6) rfl⟩
          have hb0 := (Below.refl wr.heap.size wr).drew
          have hsm := same_yes ⟨x0, x1, x2, x3, x4, x5⟩ xa ya xc yc xl wr.drew (hxk.ln.after hb0) (hyk.ln.after hb0) (Nat.le_trans (show xl.length ≤ 1000 from hxk.few) (by decide))
          dsimp only [entV] at hsm
          have HSm := Lib.hid hsm
          have j1 : (0 : Int) ≤ (j : Int) := by omega
          have j2 : (j : Int) < (X.length : Int) := by omega
          clear hsm hxk hyk hx hy hx1 hy1
          go_upto_region 28 with fail
          go_region_held3 (fun Z => (Z.cell? ⟨b1, o1 + j * 7, none⟩ = some (.int .i64 x0) ∧ Z.cell? ⟨b1, o1 + j * 7 + 1, none⟩ = some (.int .i64 x1) ∧ Z.cell? ⟨b1, o1 + j * 7 + 2, none⟩ = some (.int .i64 x2) ∧ Z.cell? ⟨b1, o1 + j * 7 + 3, none⟩ = some (.int .i64 x3) ∧ Z.cell? ⟨b1, o1 + j * 7 + 4, none⟩ = some (.int .i64 x4) ∧ Z.cell? ⟨b1, o1 + j * 7 + 5, none⟩ = some (.int .i64 x5) ∧ Z.cell? ⟨b1, o1 + j * 7 + 6, none⟩ = some (.slice xa xl.length xc)) ∧ Z.cell? ⟨b2, o2 + j * 7, none⟩ = some (.int .i64 x0) ∧ Z.cell? ⟨b2, o2 + j * 7 + 1, none⟩ = some (.int .i64 x1) ∧ Z.cell? ⟨b2, o2 + j * 7 + 2, none⟩ = some (.int .i64 x2) ∧ Z.cell? ⟨b2, o2 + j * 7 + 3, none⟩ = some (.int .i64 x3) ∧ Z.cell? ⟨b2, o2 + j * 7 + 4, none⟩ = some (.int .i64 x4) ∧ Z.cell? ⟨b2, o2 + j * 7 + 5, none⟩ = some (.int .i64 x5) ∧ Z.cell? ⟨b2, o2 + j * 7 + 6, none⟩ = some (.slice ya xl.length yc))
            (first | with_reducible exact HSx.out _ hb8 | with_reducible exact HSx.out _ hb0)
            (first | (go_at_call 12; (with_reducible refine HSm.out.mono ?_); rintro e w8 ⟨rfl, hb8'⟩; have hb8 := hb0.trans (hb8'.mono hb0.size)))
          go_wp2_with fail
          go_roundw
          case rel => exact ⟨j + 1, by omega, by go_num, hbj.trans (hb8.mono hbj.size)⟩
          case measure => simp [intOf]; omega
        · obtain rfl : j = X.length := by omega
          have HOf := Lib.hid (of_nothing 0 wr)
          go_wp2_with fail
          with_reducible refine HOf.out.mono ?_
          rintro e w8 ⟨rfl, hb8⟩
          go_wp2_with fail
          with_reducible refine (awake_ok w8).mono ?_
          rintro e wz ⟨rfl, hbz⟩
          go_wp2_with fail
          go_ret
          exact ⟨rfl, HB4.out.trans ((((HBq.out.trans (hbj.mono HBq.out.size)).trans (hb8.mono (by have h1 := HBq.out.size; have h2 := hbj.size; omega))).trans (hbz.mono ((HBq.out.trans (hbj.mono HBq.out.size)).trans (hb8.mono (by have h1 := HBq.out.size; have h2 := hbj.size; omega))).size)).mono HB4.out.size)⟩

end Go.Proofs.YtmjgcenhgpkhiaaDoor
