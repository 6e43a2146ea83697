/- chattellaw01.AmountSplits: the walk, where there are parts. -/
import Derived.Test.YtncodoaphfeefaaAmtZ
import Derived.Test.YtncodoaphfeefaaSpB
namespace Go.Proofs.Ytncodoaphfeefaa
open Go.RowKit Go.Shelf Go.Lib Go.Sort
set_option linter.unusedVariables false
set_option linter.unusedSimpArgs false

theorem row_cells2 {w : World} {base e size n g cap : Nat} {xs : List Value} (h : w.ownsRow base e size (.slice (some ⟨g, 0, none⟩) n cap) n xs) {i : Nat} {u : Value} (hu : xs[i]? = some u) : w.cell? ⟨g, i, none⟩ = some u ∧ w.frozen? ⟨g, i, none⟩ = false := by
  have hl := h.1
  have hi := (List.getElem?_eq_some_iff.1 hu).1
  have h0 : 0 < n := by
    rcases Nat.eq_zero_or_pos n with e | e
    · rw [e] at hl; omega
    · exact e
  obtain ⟨g', c', e, _, _, _, _, hc⟩ := row_open h h0
  cases e
  exact hc i u hu
theorem bel_set2 {w w' : World} {D : Nat} (h : Below w.heap.size w w') (hD : w.heap.size ≤ D) (j : Nat) (v : Value) : Below w.heap.size w (w'.setCell ⟨D, j, none⟩ v) := h.setCell (p := ⟨D, j, none⟩) hD v
theorem negK_same {total : Int} (h : 0 ≤ total) (xs : List Int) (k : Nat) (hk : k < xs.length) : (negK total xs k).set k (xs.getD k 0) = negK total xs (k + 1) := by
  rw [negK_up h xs k]
  refine List.ext_getElem (by simp [negK_len]) fun i h1 h2 => ?_
  rw [List.getElem_set]
  split
  · rename_i e
    subst e
    have := negK_get total xs k k hk
    rw [if_neg (by omega)] at this
    exact ((List.getElem?_eq_some_iff.1 this).2).symm
  · rfl
theorem negK_at {total : Int} {xs : List Int} {k : Nat} (hk : k < xs.length) : (negK total xs k)[k]? = some (xs.getD k 0) := by
  have := negK_get total xs k k hk
  rwa [if_neg (by omega)] at this
set_option maxHeartbeats 8000000 in
set_option maxRecDepth 100000 in
theorem splits_yes (total : Int) (t1 : -9223372036854775808 < total) (t2 : total ≤ 9223372036854775807) (n T S : Nat) (hT : total.natAbs = T) (a : Option Addr) (cap : Nat) (ws : List Int) (w : World) (hS : SpS n ws a w) (HSp : Hid (Calls Try.prog 15 #[.int .i64 total, .slice a n cap] w fun e w' => ∃ v d, e = .returned (.tuple #[v, .int .i64 0]) ∧ Below w.heap.size w w' ∧ SortedOf (cutsL T S ws n).toArray d ∧ w'.ownsRow w.heap.size 3 1 v n ((splitL total T S ws d n).map (Value.int .i64)))) (hpos : ∀ x ∈ ws, 0 ≤ x) (hsum : ws.sum = (S : Int)) (hS0 : 0 < S) (hSm : S ≤ 9223372036854775807)
    (HR0 : Hid (∀ (d : Array Cut) (W : World), SortedOf (cutsL T S ws n).toArray d → RowAt W a n (numV ws) → Calls Try.prog 18 #[.int .i64 T, .slice a n cap] W fun e w' => ∃ v, e = .returned v ∧ Below W.heap.size W w' ∧ w'.ownsRow W.heap.size 3 1 v n ((outG T S ws d (min (T - sumQ T S ws n) n) n).map (Value.int .i64)))) :
    Calls Try.prog 4 #[.int .i64 total, .slice a n cap] w fun e w' => e = .returned (.bool true) ∧ Below w.heap.size w w' := by
  have HPos := Lib.hid hpos
  have g4 : decide (total < -9223372036854775807) = false := decide_eq_false (by omega)
  have HSu := Lib.hid hsum
  have HF := Lib.hid (show (T : Int) ≤ 9223372036854775807 ∧ 0 < S ∧ S ≤ 9223372036854775807 ∧ total.natAbs = T from ⟨by omega, hS0, hSm, hT⟩)
  clear hpos hsum t1 t2 hS0 hSm hT
  have hl70 : decide (70 < (n : Int)) = false := decide_eq_false (by have := hS.n64; omega)
  have g1 : decide ((n : Int) < 1) = false := decide_eq_false (by have := hS.n1; omega)
  have g2 : decide (64 < (n : Int)) = false := decide_eq_false (by have := hS.n64; omega)
  have HS := Lib.hid hS
  clear hS
  go_enter Try.func4, Try.ntmps4
  go_wp2_with fail
  with_reducible refine HSp.out.mono ?_
  rintro e w1 ⟨v, d, rfl, d0, hd, hown⟩
  have hsl : (splitL total T S ws d n).length = n := by unfold splitL; rw [List.length_map, outG_len]
  obtain ⟨a1, cap1, rfl, _, hrow1⟩ := own_num hown hsl
  have hsw : sumW ws n = S := by have := sumW_all HPos.out; rw [HS.out.len, HSu.out] at this; omega
  obtain ⟨l1, l2, l3⟩ := left_few (T := T) HF.out.2.1 hsw
  have htot := outG_total HF.out.2.1 hsw hd
  obtain ⟨G, hG⟩ : ∃ G, min (T - sumQ T S ws n) n = G := ⟨_, rfl⟩
  obtain ⟨L, hL⟩ : ∃ L, splitL total T S ws d n = L := ⟨_, rfl⟩
  have HL : Hid (L = (outG T S ws d G n).map fun x => if total < 0 then -x else x) := by rw [← hL, ← hG]; rfl
  have HIn : Hid (∀ i, i < n → 0 ≤ (outG T S ws d G n).getD i 0 ∧ (outG T S ws d G n).getD i 0 ≤ T) := fun i hi => by
    rw [hG] at htot
    have hin : ∀ x ∈ outG T S ws d G n, 0 ≤ x := fun x hx => by
      obtain ⟨j, hj, rfl⟩ := List.mem_iff_getElem.1 hx
      rw [outG_len] at hj
      have := outG_get T S ws d G n j hj
      rw [List.getD_eq_getElem?_getD, List.getElem?_eq_getElem (by rw [outG_len]; exact hj)] at this
      simp only [Option.getD_some] at this
      rw [this]
      split <;> omega
    have hm : (outG T S ws d G n).getD i 0 ∈ outG T S ws d G n := by simp [List.getD_eq_getElem?_getD, outG_len, hi]
    have := mem_le_sum _ hin _ hm
    rw [htot] at this
    exact ⟨hin _ hm, this⟩
  have HRf : Hid (∀ (T' : Int) (W : World), T' = (T : Int) → RowAt W a n (numV ws) → Calls Try.prog 18 #[.int .i64 T', .slice a n cap] W fun e w' => ∃ v, e = .returned v ∧ Below W.heap.size W w' ∧ w'.ownsRow W.heap.size 3 1 v n ((outG T S ws d G n).map (Value.int .i64))) := fun T' W e hr => by
    have := HR0.out d W hd hr
    rw [hG] at this
    rw [e]
    exact this
  rw [hL] at hrow1
  have HY1 := Lib.hid hrow1
  clear hd hown hsl hrow1 hsw l1 l2 l3 htot hG hL
  have HX1 := Lib.hid (HS.out.row.after d0)
  have hb0 := Below.refl w1.heap.size w1
  go_wp2_with fail
  clear hl70 g1 g2
  go_loopw [7] (fun v wr => ∃ i : Nat, v = .int .i64 (i : Int) ∧ i ≤ n ∧ Below w1.heap.size w1 wr) (fun v _ => n - (intOf v).toNat)
  case atStart => exact ⟨0, rfl, by omega, hb0⟩
  case round =>
    clear hb0
    obtain ⟨i, rfl, hin, hbr⟩ := hrel
    by_cases hlt : i < n
    · have hlt' : (i : Int) < (n : Int) := by omega
      obtain ⟨b, o, rfl, hc⟩ := (HX1.out.after hbr) (by omega)
      have c0 : wr.cell? ⟨b, o + i, none⟩ = some (.int .i64 (ws.getD i 0)) := hc i hlt
      have hwk : IntKind.i64.wrap ((i : Int) + 1) = (i : Int) + 1 := IntWalk.i64_in _ (by have := HS.out.n64; omega)
      have g3 : decide (ws.getD i 0 < 0) = false := decide_eq_false (by have := HPos.out _ (HS.out.mem hlt); omega)
      obtain ⟨x, hx⟩ : ∃ x, ws.getD i 0 = x := ⟨_, rfl⟩
      rw [hx] at c0 g3
      have HLT := Lib.hid hlt
      clear hc hx hlt
      go_wp2_with fail
      go_roundw
      case rel => exact ⟨i + 1, by go_num, by have := HLT.out; omega, hbr⟩
      case measure => have := HLT.out; simp [intOf]; omega
    · obtain rfl : n = i := by omega
      have HSum := Lib.hid (by have := sum_big a cap ws wr (by rw [HS.out.len]; exact HX1.out.after hbr) HS.out.rng (by have := HS.out.len; have := HS.out.n64; omega); rwa [HS.out.len] at this : Calls Try.prog 17 #[.slice a n cap] wr (BigEnd ws.sum wr))
      have d2 := d0.trans (hbr.mono d0.size)
      obtain ⟨Z, hZ⟩ : ∃ Z, ws.sum = Z := ⟨_, rfl⟩
      rw [hZ] at HSum
      have HZ := Lib.hid hZ
      have hbr0 := hbr
      clear hZ hbr d0
      go_wp2_with fail
      with_reducible refine HSum.out.mono ?_
      rintro e w2 ⟨zs, za, zl, zc, rfl, hBZ, hb2, _⟩
      obtain rfl : (S : Int) = Z := by have := HZ.out; have := HSu.out; omega
      have hz0 : ((S : Int) == 0) = false := by simp; have := HF.out.2.1; omega
      have HI := Lib.hid (int_yes (S : Int) zs za zl zc w2 hBZ (fits_iff.2 (by have := HF.out.2.2.1; omega)))
      have d3' := d2.trans (hb2.mono d2.size)
      have HY2 := Lib.hid ((HY1.out.after (hbr0)).after hb2)
      clear hBZ hb2 d2
      go_wp2_with fail
      with_reducible refine HI.out.mono ?_
      rintro e w3 ⟨rfl, hb3⟩
      have d3 := d3'.trans (hb3.mono d3'.size)
      have HY3 := Lib.hid (HY2.out.after hb3)
      have hrow3 := HS.out.row.after d3
      clear hbr0
      clear hb3 d3' HI HY1 HY2
      by_cases hneg : total < 0
      · have hn1 : decide (total < 0) = true := decide_eq_true hneg
        have hm1 : IntKind.i64.wrap (-total) = -total := IntWalk.i64_in _ (by have := HF.out; omega)
        have HRef := Lib.hid (HRf.out (-total) w3 (by have := HF.out; omega) hrow3)
        have HNg := Lib.hid hneg
        clear hneg hrow3 HRf
        go_wp2_with fail
        with_reducible refine HRef.out.mono ?_
        rintro e w4 ⟨v4, rfl, hb4, ho4⟩
        obtain ⟨g, c4, rfl, hg4, _⟩ := row_open ho4 HS.out.n1
        have HY4 := Lib.hid (HY3.out.after hb4)
        have HO4 : Hid (w4.ownsRow w3.heap.size 3 1 (.slice (some ⟨g, 0, none⟩) n c4) n ((negK total (outG T S ws d G n) 0).map (Value.int .i64))) := by rw [negK_zero]; exact ho4
        have HB4 : Hid (Below w3.heap.size w3 w4) := hb4
        have HD3 := Lib.hid d3
        have HG4 := Lib.hid hg4
        clear HRef ho4 hb4 d3 hg4
        go_wp2_with fail
        go_loopw [12] (fun v wr => ∃ i : Nat, v = .int .i64 (i : Int) ∧ i ≤ n ∧ Hid (wr.ownsRow w3.heap.size 3 1 (.slice (some ⟨g, 0, none⟩) n c4) n ((negK total (outG T S ws d G n) i).map (Value.int .i64))) ∧ Hid (Below w3.heap.size w3 wr)) (fun v _ => n - (intOf v).toNat)
        case atStart => exact ⟨0, rfl, by omega, HO4, HB4⟩
        case round =>
          clear HO4 HB4
          obtain ⟨i, rfl, hin, HO, HB⟩ := hrel
          by_cases hlt : i < n
          · have hlt' : (i : Int) < (n : Int) := by omega
            have hil : i < (outG T S ws d G n).length := by rw [outG_len]; exact hlt
            obtain ⟨c0, c1⟩ := row_cells2 HO.out (i := i) (u := .int .i64 ((outG T S ws d G n).getD i 0)) (by rw [List.getElem?_map, negK_at hil]; rfl)
            have hx0 := HIn.out i hlt
            obtain ⟨x, hx⟩ : ∃ x, (outG T S ws d G n).getD i 0 = x := ⟨_, rfl⟩
            have HNx : Hid ((negK total (outG T S ws d G n) i).set i (-x) = negK total (outG T S ws d G n) (i + 1)) := by rw [← hx]; exact negK_down HNg.out _ _ hil
            rw [hx] at c0 hx0
            have hxw : IntKind.i64.wrap (-x) = -x := IntWalk.i64_in _ (by have := HF.out.1; omega)
            have hwk : IntKind.i64.wrap ((i : Int) + 1) = (i : Int) + 1 := IntWalk.i64_in _ (by have := HS.out.n64; omega)
            have HO5 : Hid ((wr.setCell ⟨g, i, none⟩ (.int .i64 (-x))).ownsRow w3.heap.size 3 1 (.slice (some ⟨g, 0, none⟩) n c4) n ((negK total (outG T S ws d G n) (i + 1)).map (Value.int .i64))) := by
              have := own_set1' HO.out i (by omega) (.int .i64 (-x))
              rw [← HNx.out, List.map_set]
              exact this
            have HB5 : Hid (Below w3.heap.size w3 (wr.setCell ⟨g, i, none⟩ (.int .i64 (-x)))) := bel_set2 HB.out HG4.out _ _
            have HLT := Lib.hid hlt
            clear hil hx0 HNx hx hlt HO HB
            go_wp2_with fail
            go_roundw
            case rel => exact ⟨i + 1, by go_num, by have := HLT.out; omega, HO5, HB5⟩
            case measure => have := HLT.out; simp [intOf]; omega
          · obtain rfl : n = i := by omega
            have hrow : RowAt wr (some ⟨g, 0, none⟩) n (numV (negK total (outG T S ws d G n) n)) := by
              obtain ⟨a9, c9, e9, _, hr9⟩ := own_num HO.out (by rw [negK_len, outG_len])
              cases e9
              exact hr9
            have hll : (negK total (outG T S ws d G n) n).length = n := by rw [negK_len, outG_len]
            have hLL : L = negK total (outG T S ws d G n) n := by
              have h9 := negK_full total (outG T S ws d G n)
              rw [outG_len] at h9
              rw [h9]
              exact HL.out
            have HInts : Hid (∀ W, Below wr.heap.size wr W → Calls Try.prog 19 #[.slice a1 n cap1, .slice (some ⟨g, 0, none⟩) n c4] W fun e w' => e = .returned (.bool true) ∧ Below W.heap.size W w') := fun W hW => by
              have h9 := ints_ok a1 (some ⟨g, 0, none⟩) cap1 c4 L (negK total (outG T S ws d G n) n) (by rw [hLL, hll]; have := HS.out.n64; omega) W (by rw [hLL, hll, ← hLL]; exact (HY3.out.after HB.out).after hW) (by rw [hll]; exact hrow.after hW)
              rw [decide_eq_true hLL, hLL, hll] at h9
              exact h9
            have d5 := HD3.out.trans (HB.out.mono HD3.out.size)
            clear hrow hll hLL HO HB HY4
            go_wp2_with fail
            with_reducible refine (HInts.out _ (Below.refl _ _)).mono ?_
            rintro e w6 ⟨rfl, b6⟩
            have d0 := d5.trans (b6.mono d5.size)
            clear d5 b6
            go_wp2_with fail
            with_reducible refine (awake_ok _).mono ?_
            rintro e w9 ⟨rfl, b9⟩
            go_wp2_with fail
            go_ret
            exact ⟨by simp, d0.trans (b9.mono d0.size)⟩
      · have hn1 : decide (total < 0) = false := decide_eq_false hneg
        have hm1 : IntKind.i64.wrap total = total := IntWalk.i64_in _ (by have := HF.out; omega)
        have HRef := Lib.hid (HRf.out total w3 (by have := HF.out; omega) hrow3)
        have HNg := Lib.hid hneg
        clear hneg hrow3 HRf
        go_wp2_with fail
        with_reducible refine HRef.out.mono ?_
        rintro e w4 ⟨v4, rfl, hb4, ho4⟩
        obtain ⟨g, c4, rfl, hg4, _⟩ := row_open ho4 HS.out.n1
        have HY4 := Lib.hid (HY3.out.after hb4)
        have HO4 : Hid (w4.ownsRow w3.heap.size 3 1 (.slice (some ⟨g, 0, none⟩) n c4) n ((negK total (outG T S ws d G n) 0).map (Value.int .i64))) := by rw [negK_zero]; exact ho4
        have HB4 : Hid (Below w3.heap.size w3 w4) := hb4
        have HD3 := Lib.hid d3
        have HG4 := Lib.hid hg4
        clear HRef ho4 hb4 d3 hg4
        go_wp2_with fail
        go_loopw [12] (fun v wr => ∃ i : Nat, v = .int .i64 (i : Int) ∧ i ≤ n ∧ Hid (wr.ownsRow w3.heap.size 3 1 (.slice (some ⟨g, 0, none⟩) n c4) n ((negK total (outG T S ws d G n) i).map (Value.int .i64))) ∧ Hid (Below w3.heap.size w3 wr)) (fun v _ => n - (intOf v).toNat)
        case atStart => exact ⟨0, rfl, by omega, HO4, HB4⟩
        case round =>
          clear HO4 HB4
          obtain ⟨i, rfl, hin, HO, HB⟩ := hrel
          by_cases hlt : i < n
          · have hlt' : (i : Int) < (n : Int) := by omega
            have hil : i < (outG T S ws d G n).length := by rw [outG_len]; exact hlt
            obtain ⟨c0, c1⟩ := row_cells2 HO.out (i := i) (u := .int .i64 ((outG T S ws d G n).getD i 0)) (by rw [List.getElem?_map, negK_at hil]; rfl)
            have hx0 := HIn.out i hlt
            obtain ⟨x, hx⟩ : ∃ x, (outG T S ws d G n).getD i 0 = x := ⟨_, rfl⟩
            have HNx : Hid ((negK total (outG T S ws d G n) i).set i (x) = negK total (outG T S ws d G n) (i + 1)) := by rw [← hx]; exact negK_same (by have := HNg.out; omega) _ _ hil
            rw [hx] at c0 hx0
            have hxw : IntKind.i64.wrap (x) = x := IntWalk.i64_in _ (by have := HF.out.1; omega)
            have hwk : IntKind.i64.wrap ((i : Int) + 1) = (i : Int) + 1 := IntWalk.i64_in _ (by have := HS.out.n64; omega)
            have HO5 : Hid ((wr.setCell ⟨g, i, none⟩ (.int .i64 (x))).ownsRow w3.heap.size 3 1 (.slice (some ⟨g, 0, none⟩) n c4) n ((negK total (outG T S ws d G n) (i + 1)).map (Value.int .i64))) := by
              have := own_set1' HO.out i (by omega) (.int .i64 (x))
              rw [← HNx.out, List.map_set]
              exact this
            have HB5 : Hid (Below w3.heap.size w3 (wr.setCell ⟨g, i, none⟩ (.int .i64 (x)))) := bel_set2 HB.out HG4.out _ _
            have HLT := Lib.hid hlt
            clear hil hx0 HNx hx hlt HO HB
            go_wp2_with fail
            go_roundw
            case rel => exact ⟨i + 1, by go_num, by have := HLT.out; omega, HO5, HB5⟩
            case measure => have := HLT.out; simp [intOf]; omega
          · obtain rfl : n = i := by omega
            have hrow : RowAt wr (some ⟨g, 0, none⟩) n (numV (negK total (outG T S ws d G n) n)) := by
              obtain ⟨a9, c9, e9, _, hr9⟩ := own_num HO.out (by rw [negK_len, outG_len])
              cases e9
              exact hr9
            have hll : (negK total (outG T S ws d G n) n).length = n := by rw [negK_len, outG_len]
            have hLL : L = negK total (outG T S ws d G n) n := by
              have h9 := negK_full total (outG T S ws d G n)
              rw [outG_len] at h9
              rw [h9]
              exact HL.out
            have HInts : Hid (∀ W, Below wr.heap.size wr W → Calls Try.prog 19 #[.slice a1 n cap1, .slice (some ⟨g, 0, none⟩) n c4] W fun e w' => e = .returned (.bool true) ∧ Below W.heap.size W w') := fun W hW => by
              have h9 := ints_ok a1 (some ⟨g, 0, none⟩) cap1 c4 L (negK total (outG T S ws d G n) n) (by rw [hLL, hll]; have := HS.out.n64; omega) W (by rw [hLL, hll, ← hLL]; exact (HY3.out.after HB.out).after hW) (by rw [hll]; exact hrow.after hW)
              rw [decide_eq_true hLL, hLL, hll] at h9
              exact h9
            have d5 := HD3.out.trans (HB.out.mono HD3.out.size)
            clear hrow hll hLL HO HB HY4
            go_wp2_with fail
            with_reducible refine (HInts.out _ (Below.refl _ _)).mono ?_
            rintro e w6 ⟨rfl, b6⟩
            have d0 := d5.trans (b6.mono d5.size)
            clear d5 b6
            go_wp2_with fail
            with_reducible refine (awake_ok _).mono ?_
            rintro e w9 ⟨rfl, b9⟩
            go_wp2_with fail
            go_ret
            exact ⟨by simp, d0.trans (b9.mono d0.size)⟩

end Go.Proofs.Ytncodoaphfeefaa
