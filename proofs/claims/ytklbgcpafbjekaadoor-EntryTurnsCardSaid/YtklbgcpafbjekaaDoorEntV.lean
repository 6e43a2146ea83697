/- The statement EntryTotals: its walk. -/
import Derived.Test.YtklbgcpafbjekaaDoorEntU
namespace Go.Proofs.YtklbgcpafbjekaaDoor
open Go.RowKit
set_option linter.unusedVariables false
set_option linter.unusedSimpArgs false

/-- An element's cells, in a later world. -/
def Cells7At (w : World) (b o : Nat) (e : En) : Prop :=
  w.cell? ⟨b, o, none⟩ = some (.int .i64 e.s.con) ∧ w.cell? ⟨b, o + 1, none⟩ = some (.int .i64 e.s.day) ∧ w.cell? ⟨b, o + 2, none⟩ = some (.int .i64 e.s.cur) ∧ w.cell? ⟨b, o + 3, none⟩ = some (.int .i64 e.s.seq) ∧ w.cell? ⟨b, o + 4, none⟩ = some (.int .i64 e.s.per) ∧ w.cell? ⟨b, o + 5, none⟩ = some (.int .i64 e.s.ref) ∧ w.cell? ⟨b, o + 6, none⟩ = some (.slice e.a e.ls.length e.cap)
theorem EnsIn.cells {w : World} {a : Option Addr} {es : List En} (h : EnsIn w a es) (hl : 0 < es.length) : ∃ b o, a = some ⟨b, o, none⟩ ∧ b < w.heap.size ∧ ∀ i, i < es.length → Cells7At w b (o + i * 7) (En.at es i) := by
  obtain ⟨b, o, e, hc⟩ := h.1 hl
  refine ⟨b, o, e, World.block_lt_of_cell? w _ (hc 0 hl 0 _ rfl), fun i hi => ⟨hc i hi 0 _ rfl, hc i hi 1 _ rfl, hc i hi 2 _ rfl, hc i hi 3 _ rfl, hc i hi 4 _ rfl, hc i hi 5 _ rfl, hc i hi 6 _ rfl⟩⟩
theorem Cells7At.after {w w' : World} {b o : Nat} {e : En} {N : Nat} (h : Cells7At w b o e) (hb : Below N w w') (hN : b < N) : Cells7At w' b o e :=
  ⟨(hb.cell (p := ⟨b, o, none⟩) hN).trans h.1, (hb.cell (p := ⟨b, o + 1, none⟩) hN).trans h.2.1, (hb.cell (p := ⟨b, o + 2, none⟩) hN).trans h.2.2.1, (hb.cell (p := ⟨b, o + 3, none⟩) hN).trans h.2.2.2.1,
   (hb.cell (p := ⟨b, o + 4, none⟩) hN).trans h.2.2.2.2.1, (hb.cell (p := ⟨b, o + 5, none⟩) hN).trans h.2.2.2.2.2.1, (hb.cell (p := ⟨b, o + 6, none⟩) hN).trans h.2.2.2.2.2.2⟩


theorem own_ln {w : World} {base cap : Nat} {a : Option Addr} {ls : List Ln} {T : TypeId} (h : w.ownsRow base T 3 (.slice a ls.length cap) ls.length (flatF (lnRow ls) ls.length)) : LnAt w a ls := by
  obtain ⟨a', c', hv, _, _, _, _, hr⟩ := owned_rows (f := lnRow ls) (fun i => rfl) h
  obtain ⟨rfl, _, _⟩ : a = a' ∧ ls.length = ls.length ∧ cap = c' := by simpa using hv
  exact rows_ln hr

set_option maxHeartbeats 8000000 in
set_option maxRecDepth 100000 in
theorem walk_EntryTotals (W : World) (hR : RulesAt W) (tp tc ta party : Int) (a : Option Addr) (cap : Nat) (es : List En) (h : EnsIn W a es) (hnil : a = none → es.length = 0 ∧ cap = 0) (hcap : es.length ≤ 9223372036854775807) :
    Calls Tryd.prog 6 #[.agg #[.int .i64 tp, .int .i64 tc, .int .i64 ta], .int .i64 party, .slice a es.length cap] W fun e W' => e = .returned (.bool true) ∧ Below W.heap.size W W' := by
  obtain ⟨i0, hi, hz0, hz1, hz2⟩ := info_parts infoEnt
  obtain ⟨j0, hj, hy0, hy1, hy2⟩ := info_parts infoREnt
  have HS := Lib.hid h
  obtain ⟨wa, hwa⟩ : ∃ wa, W.alloc (.cells #[.int .i64 tp, .int .i64 tc, .int .i64 ta] 23) = wa := ⟨_, rfl⟩
  have k0 : Blk wa W.heap.size #[.int .i64 tp, .int .i64 tc, .int .i64 ta] 23 := by rw [← hwa]; exact Blk.new _ _ _
  have ba : Below W.heap.size W wa := by rw [← hwa]; exact (Below.refl _ _).alloc (Nat.le_refl _) _
  have za : wa.heap.size = W.heap.size + 1 := by rw [← hwa]; simp
  have K0 := Lib.hid k0
  have HZ := Lib.hid za
  have HR := Lib.hid (hR.after ba)
  clear k0 za hR h
  by_cases hn : es.length ≤ 12
  · have hn' : decide (12 < (es.length : Int)) = false := by rw [decide_eq_false_iff_not]; omega
    go_enter Tryd.func6, Tryd.ntmps6
    go_wp2_with fail
    clear hwa hn'
    go_loopw [7, 8, 9] (fun v7 v8 i wr => ∃ k : Nat, k ≤ es.length ∧ i = .int .i64 k ∧ TotRel es wa k v7 v8 wr) (fun _ _ i _ => es.length - (intOf i).toNat)
    case atStart => exact ⟨0, by omega, rfl, [], rfl, fun i hi => absurd hi (by omega), World.ownsRow_nil _ _ _ _, World.ownsRow_nil _ _ _ _, Below.refl _ _⟩
    case round =>
      obtain ⟨k, hk, rfl, ps, hpl, hps, o7, o8, hbl⟩ := hrel
      have hend : Below W.heap.size W wr := ba.trans (hbl.mono ba.size)
      by_cases hlt : k < es.length
      · obtain ⟨b, o, rfl, hbW, hcell⟩ := HS.out.cells (by omega)
        have hE := Lib.hid (HS.out.2 k hlt)
        have hC := Lib.hid (hcell k hlt)
        have hC2 := Lib.hid (hcell (es.length - 1 - k) (by omega))
        have hrow : Hid (En.row es.reverse k = (En.at es (es.length - 1 - k)).cs) := by show (En.at es.reverse k).cs = _; rw [at_rev hlt]
        obtain ⟨q, hq⟩ : ∃ q, es.length - 1 - k = q := ⟨_, rfl⟩
        rw [hq] at hC2 hrow
        have HQ : Hid ((es.length : Int) - 1 - (k : Int) = (q : Int)) := by show _ = _; omega
        have q1 : (0 : Int) ≤ (q : Int) := by omega
        have q2 : (q : Int) < (es.length : Int) := by omega
        obtain ⟨⟨⟨n0, n1, n2, n3, n4, n5⟩, ea, ecap, els⟩, hEE⟩ : ∃ E, En.at es k = E := ⟨_, rfl⟩
        obtain ⟨⟨⟨m0, m1, m2, m3, m4, m5⟩, fa, fcap, fls⟩, hFF⟩ : ∃ E, En.at es q = E := ⟨_, rfl⟩
        rw [hEE] at hE hC
        rw [hFF] at hC2 hrow
        have HEE := Lib.hid hEE
        have HPS := Lib.hid hps
        have HO8 := Lib.hid o8
        have HO7 := Lib.hid o7
        have i1 : (0 : Int) ≤ (k : Int) := by omega
        have i2 : (k : Int) < (es.length : Int) := by omega
        clear hcell hEE hFF hq hps o7 o8
        obtain ⟨a0, a1, a2, a3, a4, a5, a6⟩ := hC.out.after hend hbW
        dsimp only at a0 a1 a2 a3 a4 a5 a6
        go_wp2_with fail
        clear a0 a1 a2 a3 a4 a5 a6
        have hfew := few_ok ⟨n0, n1, n2, n3, n4, n5⟩ ea ecap els.length wr hE.out.big
        dsimp only [entV] at hfew
        by_cases hf : els.length ≤ 20
        · rw [decide_eq_true hf] at hfew
          have HF := Lib.hid hfew
          clear hfew
          with_reducible refine HF.out.mono ?_
          rintro e w1 ⟨rfl, hb1⟩
          have hend1 : Below W.heap.size W w1 := hend.trans (hb1.mono hend.size)
          obtain ⟨a0, a1, a2, a3, a4, a5, a6⟩ := hC.out.after hend1 hbW
          dsimp only at a0 a1 a2 a3 a4 a5 a6
          go_wp2_with fail
          clear a0 a1 a2 a3 a4 a5 a6
          have hpl := plain_ok ⟨n0, n1, n2, n3, n4, n5⟩ ea ecap els w1 ((hE.out.after hend1).ln) (by omega)
          dsimp only [entV] at hpl
          have HPL := Lib.hid hpl
          clear hpl
          with_reducible refine HPL.out.mono ?_
          rintro e w2 ⟨c, cc, rfl, hc0, hc1, hb2, _, hown⟩
          dsimp only [entV]
          have hb12 : Below wr.heap.size wr w2 := hb1.trans (hb2.mono hb1.size)
          have hbl2 : Below wa.heap.size wa w2 := hbl.trans (hb12.mono hbl.size)
          have o7 := own_after HO7.out hb12
          have HO1 := Lib.hid (own_base hown (Nat.le_trans hbl.size hb1.size))
          clear hown hc1
          obtain ⟨w3, hw3⟩ : ∃ w3, w2.alloc (.cells #[.int .i64 n0, .int .i64 n1, .int .i64 n2, .int .i64 n3, .int .i64 n4, .int .i64 n5, .slice c els.length cc] 35) = w3 := ⟨_, rfl⟩
          have hb3 : Below w2.heap.size w2 w3 := by rw [← hw3]; exact (Below.refl _ _).alloc (Nat.le_refl _) _
          have o7' := own_after o7 hb3
          have hnews : ∀ j u, [.int .i64 n0, .int .i64 n1, .int .i64 n2, .int .i64 n3, .int .i64 n4, .int .i64 n5, .slice c els.length cc][j]? = some u → w3.cell? ((⟨w2.heap.size, 0, none⟩ : Addr).add j) = some u := by rw [← hw3]; exact World.news_of_block (cs := #[.int .i64 n0, .int .i64 n1, .int .i64 n2, .int .i64 n3, .int .i64 n4, .int .i64 n5, .slice c els.length cc]) (t := 35) (fr := (0, 0)) (heap_alloc_new w2 _)
          have HNEW := Lib.hid hnews
          have O7' := Lib.hid o7'
          have zz : wa.heap.size ≤ w3.heap.size := Nat.le_trans hbl2.size hb3.size
          clear o7 o7' hnews
          go_wp2_with (first
            | (at_builtin; refine wpList_append_own _ rfl _ _ 52 rfl wa.heap.size 35 j0 _ 7 72 Tryd.underlying52 hj hy0 hy1 hy2 rfl (by decide) _ _ _ rfl O7'.out ⟨w2.heap.size, 0, none⟩ 1 1 [.int .i64 n0, .int .i64 n1, .int .i64 n2, .int .i64 n3, .int .i64 n4, .int .i64 n5, .slice c els.length cc] rfl rfl HNEW.out (by simp [Value.oneCell']) (by unfold maxLen; omega) (by omega) zz ?_; intro v7' w4 hown7 hgrow7 _; have hbl4 : Below wa.heap.size wa w4 := (hbl2.trans (hb3.mono hbl2.size)).grown hgrow7 zz (fun q e => by have := (O7'.out.lt q e).1; omega); obtain ⟨a0, a1, a2, a3, a4, a5, a6⟩ := hC2.out.after (ba.trans (hbl4.mono ba.size)) hbW; dsimp only at a0 a1 a2 a3 a4 a5 a6; have hq := HQ.out)
            | (at_builtin; refine wpList_append_own _ rfl _ _ 51 rfl wa.heap.size 26 i0 _ 7 72 Tryd.underlying51 hi hz0 hz1 hz2 rfl (by decide) _ _ _ rfl ((own_kept (own_after (own_after HO8.out hb12) hb3) O7'.out (by decide) hgrow7).alloc _) ⟨w4.heap.size, 0, none⟩ 1 1 [.int .i64 m0, .int .i64 m1, .int .i64 m2, .int .i64 m3, .int .i64 m4, .int .i64 m5, .slice fa fls.length fcap] rfl rfl (World.news_of_block (cs := #[.int .i64 m0, .int .i64 m1, .int .i64 m2, .int .i64 m3, .int .i64 m4, .int .i64 m5, .slice fa fls.length fcap]) (t := 26) (fr := (0, 0)) (heap_alloc_new w4 _)) (by simp [Value.oneCell']) (by unfold maxLen; omega) (by omega) (by have := hbl4.size; simp; omega) ?_; intro v8' w6 hown8 hgrow8 _))
          have b5 : Below w4.heap.size w4 (w4.alloc (.cells #[.int .i64 m0, .int .i64 m1, .int .i64 m2, .int .i64 m3, .int .i64 m4, .int .i64 m5, .slice fa fls.length fcap] 26)) := (Below.refl _ _).alloc (Nat.le_refl _) _
          have o8w := own_kept (own_after (own_after HO8.out hb12) hb3) O7'.out (by decide) hgrow7
          have hbl6 : Below wa.heap.size wa w6 := (hbl4.trans (b5.mono hbl4.size)).grown hgrow8 (Nat.le_trans hbl4.size b5.size) (fun q e => by have := (o8w.lt q e).1; omega)
          have e8 : flatF (En.row es.reverse) (k + 1) = flatF (En.row es.reverse) k ++ [.int .i64 m0, .int .i64 m1, .int .i64 m2, .int .i64 m3, .int .i64 m4, .int .i64 m5, .slice fa fls.length fcap] := by rw [flatF, hrow.out]; rfl
          rw [← e8] at hown8
          have hrel : TotRel es wa (k + 1) v7' v8' w6 := TotRel.step (p := ⟨⟨n0, n1, n2, n3, n4, n5⟩, c, cc, els⟩) hpl HPS.out (by rw [HEE.out]) (by rw [HEE.out]) hc0 (by rw [HEE.out]; exact hf) hb12 HO1.out hb3 O7'.out hgrow7 hown7 HO8.out b5 hgrow8 hown8 hbl6
          clear a0 a1 a2 a3 a4 a5 a6 hq
          go_roundw
          case rel => exact ⟨k + 1, by omega, by go_num, hrel⟩
          case measure => simp [intOf]; omega
        · rw [decide_eq_false hf] at hfew
          have HF := Lib.hid hfew
          clear hfew
          with_reducible refine HF.out.mono ?_
          rintro e w1 ⟨rfl, hb1⟩
          have hb1' : Below wa.heap.size wa w1 := hbl.trans (hb1.mono hbl.size)
          go_wp2_with fail
          with_reducible refine (awake_ok _ (HR.out.after hb1')).mono ?_
          rintro e w9 ⟨rfl, hb9⟩
          go_wp2_with fail
          go_ret
          exact ⟨rfl, ba.trans ((hb1'.trans (hb9.mono hb1'.size)).mono ba.size)⟩
      · obtain rfl : k = es.length := by omega
        have E1 : EnsAt wr a es := ⟨(HS.out.after hend).1, fun i hi => ⟨((HS.out.after hend).2 i hi).ln, ((HS.out.after hend).2 i hi).wf, by have := (hps i hi).2.2.2.1; omega, ((HS.out.after hend).2 i hi).nil⟩⟩
        obtain ⟨a8, c8, rfl, _, _, _, _, r8⟩ := owned_rows (f := En.row es.reverse) (fun i => rfl) o8
        obtain ⟨a7, c7, rfl, _, _, _, _, r7⟩ := owned_rows (f := En.row ps) (fun i => rfl) o7
        have E2 : EnsAt wr a8 es.reverse := ⟨by rw [List.length_reverse]; exact r8, fun i hi => by rw [at_rev (by simpa using hi)]; exact E1.2 _ (by simp at hi; omega)⟩
        have E3 : EnsAt wr a7 ps := ⟨by rw [hpl]; exact r7, fun i hi => by
          rw [hpl] at hi
          obtain ⟨p1, p2, p3, p4, p5⟩ := hps i hi
          exact ⟨own_ln p5, by rw [p2]; exact (E1.2 i hi).wf, by rw [p2]; omega, p3⟩⟩
        have hS1 := totK_rev ⟨tp, tc, ta⟩ party es
        have hS2 := totK_congr (t := ⟨tp, tc, ta⟩) (party := party) (es := es) (ps := ps) es.length fun i hi => ⟨(hps i hi).1, (hps i hi).2.1⟩
        have hT1 := total_ok ⟨tp, tc, ta⟩ party a cap es wr E1 (by omega)
        have hT2 : ∀ w', Below wr.heap.size wr w' → _ := fun w' hw' => total_ok ⟨tp, tc, ta⟩ party a8 c8 es.reverse w' (E2.after hw') (by rw [List.length_reverse]; omega)
        have hT3 : ∀ w', Below wr.heap.size wr w' → _ := fun w' hw' => reftotal_ok tp tc ta party a7 c7 ps w' (E3.after hw') (by omega)
        simp only [List.length_reverse] at hT2
        rw [hpl] at hT3
        rw [hS1] at hT2
        rw [hS2] at hT3
        obtain ⟨S, hS⟩ : ∃ S, (totK ⟨tp, tc, ta⟩ party es es.length).sum = S := ⟨_, rfl⟩
        rw [hS] at hT1 hT2 hT3
        have HN := Lib.hid hn
        clear hS hS1 hS2 r7 r8 o7 o8 hps E1 E2 E3 hn
        unfold Ln.v at hT1 hT2
        cases hf : fitsI S
        · have s1 : sumA S = .tuple #[.int .i64 0, .int .i64 11] := by unfold sumA; rw [hf]; rfl
          rw [s1] at hT1 hT2
          rw [intE_no hf] at hT3
          have HT1 := Lib.hid hT1
          have HT2 := Lib.hid hT2
          have HT3 := Lib.hid hT3
          clear hT1 hT2 hT3 hf s1
          have a0 : wr.cell? ⟨W.heap.size, 0, none⟩ = some (.int .i64 tp) := (K0.out.after hbl).cell 0 rfl
          have a1 : wr.cell? ⟨W.heap.size, 1, none⟩ = some (.int .i64 tc) := (K0.out.after hbl).cell 1 rfl
          have a2 : wr.cell? ⟨W.heap.size, 2, none⟩ = some (.int .i64 ta) := (K0.out.after hbl).cell 2 rfl
          go_wp2_with fail
          clear a0 a1 a2
          with_reducible refine HT1.out.mono ?_
          rintro e w1 ⟨rfl, hb1⟩
          have a0 : w1.cell? ⟨W.heap.size, 0, none⟩ = some (.int .i64 tp) := ((K0.out.after hbl).after hb1).cell 0 rfl
          have a1 : w1.cell? ⟨W.heap.size, 1, none⟩ = some (.int .i64 tc) := ((K0.out.after hbl).after hb1).cell 1 rfl
          have a2 : w1.cell? ⟨W.heap.size, 2, none⟩ = some (.int .i64 ta) := ((K0.out.after hbl).after hb1).cell 2 rfl
          go_wp2_with fail
          clear a0 a1 a2
          with_reducible refine (HT2.out _ hb1).mono ?_
          rintro e w2 ⟨rfl, hb2⟩
          replace hb2 := hb1.trans (hb2.mono hb1.size)
          have a0 : w2.cell? ⟨W.heap.size, 0, none⟩ = some (.int .i64 tp) := ((K0.out.after hbl).after hb2).cell 0 rfl
          have a1 : w2.cell? ⟨W.heap.size, 1, none⟩ = some (.int .i64 tc) := ((K0.out.after hbl).after hb2).cell 1 rfl
          have a2 : w2.cell? ⟨W.heap.size, 2, none⟩ = some (.int .i64 ta) := ((K0.out.after hbl).after hb2).cell 2 rfl
          go_wp2_with fail
          clear a0 a1 a2
          with_reducible refine (HT3.out _ hb2).mono ?_
          rintro e w3 ⟨rfl, hb3⟩
          replace hb3 := hb2.trans (hb3.mono hb2.size)
          have hb3' := hbl.trans (hb3.mono hbl.size)
          go_wp2_with fail
          with_reducible refine (awake_ok _ (HR.out.after hb3')).mono ?_
          rintro e w4 ⟨rfl, hb4⟩
          go_wp2_with fail
          go_ret
          exact ⟨rfl, ba.trans ((hb3'.trans (hb4.mono hb3'.size)).mono ba.size)⟩
        · have s1 : sumA S = .tuple #[.int .i64 S, .int .i64 0] := by unfold sumA; rw [hf]; rfl
          rw [s1] at hT1 hT2
          rw [intE_yes hf] at hT3
          have HT1 := Lib.hid hT1
          have HT2 := Lib.hid hT2
          have HT3 := Lib.hid hT3
          clear hT1 hT2 hT3 hf s1
          have a0 : wr.cell? ⟨W.heap.size, 0, none⟩ = some (.int .i64 tp) := (K0.out.after hbl).cell 0 rfl
          have a1 : wr.cell? ⟨W.heap.size, 1, none⟩ = some (.int .i64 tc) := (K0.out.after hbl).cell 1 rfl
          have a2 : wr.cell? ⟨W.heap.size, 2, none⟩ = some (.int .i64 ta) := (K0.out.after hbl).cell 2 rfl
          go_wp2_with fail
          clear a0 a1 a2
          with_reducible refine HT1.out.mono ?_
          rintro e w1 ⟨rfl, hb1⟩
          have a0 : w1.cell? ⟨W.heap.size, 0, none⟩ = some (.int .i64 tp) := ((K0.out.after hbl).after hb1).cell 0 rfl
          have a1 : w1.cell? ⟨W.heap.size, 1, none⟩ = some (.int .i64 tc) := ((K0.out.after hbl).after hb1).cell 1 rfl
          have a2 : w1.cell? ⟨W.heap.size, 2, none⟩ = some (.int .i64 ta) := ((K0.out.after hbl).after hb1).cell 2 rfl
          go_wp2_with fail
          clear a0 a1 a2
          with_reducible refine (HT2.out _ hb1).mono ?_
          rintro e w2 ⟨rfl, hb2⟩
          replace hb2 := hb1.trans (hb2.mono hb1.size)
          have a0 : w2.cell? ⟨W.heap.size, 0, none⟩ = some (.int .i64 tp) := ((K0.out.after hbl).after hb2).cell 0 rfl
          have a1 : w2.cell? ⟨W.heap.size, 1, none⟩ = some (.int .i64 tc) := ((K0.out.after hbl).after hb2).cell 1 rfl
          have a2 : w2.cell? ⟨W.heap.size, 2, none⟩ = some (.int .i64 ta) := ((K0.out.after hbl).after hb2).cell 2 rfl
          go_wp2_with fail
          clear a0 a1 a2
          with_reducible refine (HT3.out _ hb2).mono ?_
          rintro e w3 ⟨rfl, hb3⟩
          replace hb3 := hb2.trans (hb3.mono hb2.size)
          have hb3' := hbl.trans (hb3.mono hbl.size)
          go_wp2_with fail
          with_reducible refine (awake_ok _ (HR.out.after hb3')).mono ?_
          rintro e w4 ⟨rfl, hb4⟩
          go_wp2_with fail
          go_ret
          exact ⟨rfl, ba.trans ((hb3'.trans (hb4.mono hb3'.size)).mono ba.size)⟩
  · have hn' : decide (12 < (es.length : Int)) = true := by rw [decide_eq_true_iff]; omega
    have hn2 : decide (12 < es.length) = true := by rw [decide_eq_true_iff]; omega
    go_enter Tryd.func6, Tryd.ntmps6
    go_wp2_with fail
    with_reducible refine (awake_ok _ HR.out).mono ?_
    rintro e w9 ⟨rfl, hb9⟩
    go_wp2_with fail
    go_ret
    exact ⟨rfl, ba.trans (hb9.mono ba.size)⟩

end Go.Proofs.YtklbgcpafbjekaaDoor
