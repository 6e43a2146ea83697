/- chattellaw01.AmountOrder: the walk. -/
import Derived.Test.YtncodoaphfeefaaAmtI
namespace Go.Proofs.Ytncodoaphfeefaa
open Go.RowKit Go.Shelf Go.Lib Go.Sort
set_option linter.unusedVariables false
set_option linter.unusedSimpArgs false

theorem tmod_in (x : Int) (n : Nat) (hn : 0 < n) : -(n : Int) < x.tmod n ∧ x.tmod n < n := by
  rcases Int.le_total 0 x with h | h
  · rw [Int.tmod_eq_emod_of_nonneg h]
    have h1 := Int.emod_nonneg x (show (n : Int) ≠ 0 by omega)
    have h2 := Int.emod_lt_of_pos x (show (0 : Int) < n by omega)
    omega
  · rw [show x = -(-x) by omega, Int.neg_tmod, Int.tmod_eq_emod_of_nonneg (by omega)]
    have h1 := Int.emod_nonneg (-x) (show (n : Int) ≠ 0 by omega)
    have h2 := Int.emod_lt_of_pos (-x) (show (0 : Int) < n by omega)
    omega
theorem turn_ix (fr : Int) (n k : Nat) (hn : 0 < n) (hn40 : n ≤ 1000) (hk : k < n) : (RowKit.wrap64 ((RowKit.wrap64 (fr.tmod (n : Int) + (n : Int))).tmod (n : Int) + (k : Int))).tmod (n : Int) = (((((fr.tmod (n : Int) + (n : Int)).tmod (n : Int)).toNat + k) % n : Nat) : Int) := by
  obtain ⟨r1, r2⟩ := tmod_in fr n hn
  generalize fr.tmod (n : Int) = R at *
  have w1 : RowKit.wrap64 (R + (n : Int)) = R + (n : Int) := by unfold RowKit.wrap64; omega
  rw [w1]
  obtain ⟨q1, q2⟩ := tmod_in (R + n) n hn
  have q0 : 0 ≤ (R + (n : Int)).tmod (n : Int) := by rw [Int.tmod_eq_emod_of_nonneg (by omega)]; exact Int.emod_nonneg _ (by omega)
  generalize (R + (n : Int)).tmod (n : Int) = Q at *
  have w2 : RowKit.wrap64 (Q + (k : Int)) = Q + (k : Int) := by unfold RowKit.wrap64; omega
  rw [w2, Int.tmod_eq_emod_of_nonneg (by omega), Int.natCast_emod]
  congr 1
  omega
theorem turn_s (fr : Int) (n : Nat) (hn : 0 < n) : ((fr.tmod (n : Int) + (n : Int)).tmod (n : Int)).toNat < n := by
  have := tmod_in (fr.tmod (n : Int) + (n : Int)) n hn
  omega

set_option maxHeartbeats 4000000 in
set_option maxRecDepth 100000 in
theorem order_ok (t0 t1 : Int) (a1 : -9223372036854775808 ≤ t0) (a2 : t0 ≤ 9223372036854775807) (b1 : -9223372036854775808 ≤ t1) (b2 : t1 ≤ 9223372036854775807) (a : Option Addr) (cap : Nat) (xs : List Int) (hr : ∀ x ∈ xs, -9223372036854775808 ≤ x ∧ x ≤ 9223372036854775807) (fr : Int) (f1 : -9223372036854775808 ≤ fr) (f2 : fr ≤ 9223372036854775807) (w : World) (hx : RowAt w a xs.length (numV xs)) :
    Calls Try.prog 8 #[.agg #[.int .i64 t0, .int .i64 t1], .slice a xs.length cap, .int .i64 fr] w fun e w' => e = .returned (.bool true) ∧ Below w.heap.size w w' := by
  by_cases hl : 40 < xs.length
  · have hl' : 40 < (xs.length : Int) := by omega
    clear hx hr f1 f2 hl
    go_enter Try.func8, Try.ntmps8
    go_wp2_with fail
    with_reducible refine (awake_ok _).mono ?_
    rintro e w9 ⟨rfl, b9⟩
    go_wp2_with fail
    go_ret
    exact ⟨by simp, ((Below.refl _ _).alloc (Nat.le_refl _) _).trans (b9.mono (by simp))⟩
  obtain ⟨i0, hi, hz0, hz1, hz2⟩ := info_parts infoInt
  have hl40 : (xs.length : Int) ≤ 40 := by omega
  obtain ⟨⟨A, E⟩, v1⟩ : ∃ r, fitV (t0 + t1) = r := ⟨_, rfl⟩
  obtain ⟨⟨C, G⟩, v2⟩ : ∃ r, fitV (t0 * t1) = r := ⟨_, rfl⟩
  obtain ⟨⟨S, H⟩, v3⟩ : ∃ r, fitV xs.sum = r := ⟨_, rfl⟩
  have H1 := Lib.hid (amtadd_ok t0 t1 A E ⟨a1, a2⟩ ⟨b1, b2⟩ v1)
  have H2 := Lib.hid (amtadd_ok t1 t0 A E ⟨b1, b2⟩ ⟨a1, a2⟩ (by rw [Int.add_comm]; exact v1))
  have H3 := Lib.hid (mul_ok t0 t1 C G a1 a2 b1 b2 v2)
  have H4 := Lib.hid (mul_ok t1 t0 C G b1 b2 a1 a2 (by rw [Int.mul_comm]; exact v2))
  have HS := Lib.hid (fun (w' : World) (hb : Below w.heap.size w w') => sum_fitV a cap xs S H w' (hx.after hb) hr (by omega) v3)
  have HX := Lib.hid hx
  have HR := Lib.hid hr
  have HT := Lib.hid (show (-9223372036854775808 ≤ t0 ∧ t0 ≤ 9223372036854775807) ∧ (-9223372036854775808 ≤ t1 ∧ t1 ≤ 9223372036854775807) from ⟨⟨a1, a2⟩, b1, b2⟩)
  have HF := Lib.hid (show -9223372036854775808 ≤ fr ∧ fr ≤ 9223372036854775807 from ⟨f1, f2⟩)
  clear hx hr hl f1 f2 a1 a2 b1 b2
  go_enter Try.func8, Try.ntmps8
  go_wp2_with fail
  with_reducible refine (H1.out _).mono ?_
  rintro e w1 ⟨rfl, b1⟩
  have k1 : Blk w1 w.heap.size #[.int .i64 t0, .int .i64 t1] _ := (Blk.new _ _ _).after b1
  have d1 : Below w.heap.size w w1 := ((Below.refl _ _).alloc (Nat.le_refl _) _).trans (b1.mono (by simp))
  clear b1
  have cc0 := k1.cell 0 rfl
  have cc1 := k1.cell 1 rfl
  go_wp2_with fail
  clear cc0 cc1
  with_reducible refine (H2.out _).mono ?_
  rintro e w2 ⟨rfl, b2⟩
  have k2 := k1.after b2
  have d2 := d1.trans (b2.mono d1.size)
  clear b2 k1 d1
  have cc0 := k2.cell 0 rfl
  have cc1 := k2.cell 1 rfl
  go_wp2_with fail
  clear cc0 cc1
  with_reducible refine (H3.out _).mono ?_
  rintro e w3 ⟨rfl, b3⟩
  have k3 := k2.after b3
  have d3 := d2.trans (b3.mono d2.size)
  clear b3 k2 d2
  have cc0 := k3.cell 0 rfl
  have cc1 := k3.cell 1 rfl
  go_wp2_with fail
  clear cc0 cc1
  with_reducible refine (H4.out _).mono ?_
  rintro e w4 ⟨rfl, b4⟩
  have k4 := k3.after b4
  have d4 := d3.trans (b4.mono d3.size)
  clear b4 k3 d3
  clear H1 H2 H3 H4 v2
  go_wp2_with fail
  obtain ⟨n, hn⟩ : ∃ n, xs.length = n := ⟨_, rfl⟩
  have HN := Lib.hid hn
  rw [hn] at hl40 HX HS ⊢
  clear hn
  obtain ⟨s, hs⟩ : ∃ s : Nat, s = ((fr.tmod (n : Int) + n).tmod (n : Int)).toNat := ⟨_, rfl⟩
  go_loopw [16, 17] (fun v i wr => ∃ k : Nat, k ≤ n ∧ i = .int .i64 (k : Int) ∧ Hid (wr.ownsRow w4.heap.size 3 1 v k ((turnL xs s k).map (Value.int .i64))) ∧ Hid (Below w4.heap.size w4 wr)) (fun _ i _ => n - (intOf i).toNat)
  case atStart => exact ⟨0, by omega, rfl, (show w4.ownsRow _ _ _ _ _ _ from World.ownsRow_nil _ _ _ _), (show RowKit.Below _ _ _ from Below.refl _ _)⟩
  case round =>
    obtain ⟨k, hk, rfl, HO, HB⟩ := hrel
    by_cases hlt : k < n
    · have hkn : (k : Int) < (n : Int) := by omega
      have hn0 : ((n : Int) == 0) = false := by simp; omega
      have hn1 : (n : Int) ≠ 0 := by omega
      have hix := turn_ix fr n k (by omega) (by omega) hlt
      rw [← hs] at hix
      have hjn : (s + k) % n < n := Nat.mod_lt _ (by omega)
      obtain ⟨j, hj⟩ : ∃ j, (s + k) % n = j := ⟨_, rfl⟩
      rw [hj] at hix hjn
      have hjn' : (j : Int) < (n : Int) := by omega
      obtain ⟨b, o, rfl, hc⟩ := (HX.out.after (d4.trans (HB.out.mono d4.size))) (by omega)
      have cx : wr.cell? ⟨b, o + j, none⟩ = some (.int .i64 (xs.getD j 0)) := hc j hjn
      have hsucc := turnL_succ xs s k
      rw [HN.out, hj] at hsucc
      have HSU := Lib.hid hsucc
      obtain ⟨x, hx⟩ : ∃ x, xs.getD j 0 = x := ⟨_, rfl⟩
      rw [hx] at cx HSU
      have HLT := Lib.hid hlt
      have zb := HB.out.size
      clear hc hsucc hx hj hs hlt
      go_wp2_with (at_builtin; refine wpList_append_own _ rfl _ _ 27 rfl w4.heap.size 3 i0 (.int .i64 0) 1 8 Try.underlying27 hi hz0 hz1 hz2 rfl (by decide) _ _ _ rfl (HO.out.alloc _) ⟨wr.heap.size, 0, none⟩ 1 1 [.int .i64 x] rfl rfl (news_one _ _ _) (by simp [Value.oneCell']) (by unfold maxLen; omega) (by omega) (by simp; omega) ?_; intro v' w5 hown hgrow _
                   have HG : Hid (World.grownBy _ w5 u16.ownBlock) := hgrow
                   clear hgrow)
      have E8 : w5.ownsRow w4.heap.size 3 1 v' (k + 1) ((turnL xs s (k + 1)).map (Value.int .i64)) := by
        rw [HSU.out, List.map_append]
        exact hown
      have B5 : Below w4.heap.size w4 w5 := (HB.out.alloc zb _).grown HG.out (by simp; omega) (fun q' e => by have := (HO.out.lt q' e).1; omega)
      clear hown
      have hlt := HLT.out
      go_roundw
      case rel => exact ⟨k + 1, by omega, by go_num, E8, B5⟩
      case measure => simp [intOf]; omega
    · obtain rfl : n = k := by omega
      have HTS : Hid (fitV (turnL xs s n).sum = (S, H)) := by
        show _ = _
        by_cases h0 : 0 < n
        · have h1 : s < xs.length := by rw [hs, HN.out]; exact turn_s fr n h0
          have := turnL_sum h1
          rw [HN.out] at this
          rw [this, v3]
        · obtain rfl : n = 0 := by omega
          have : xs = [] := List.length_eq_zero_iff.1 HN.out
          rw [← v3, this]
          rfl
      obtain ⟨c, capc, rfl, _, hrow⟩ := own_num HO.out (turnL_len _ _ _)
      have d5 : Below w.heap.size w wr := d4.trans (HB.out.mono d4.size)
      have k5 := k4.below HB.out (by have := k4.lt; omega)
      have HRT := Lib.hid (turnL_in HR.out s n)
      have HST : Hid (∀ w', Below wr.heap.size wr w' → Calls Try.prog 20 #[.slice c n capc] w' fun e w'' => e = .returned (.tuple #[.int .i64 S, .int .i64 H]) ∧ Below w'.heap.size w' w'') := fun w' hb => by
        have := sum_fitV c capc (turnL xs s n) S H w' (by rw [turnL_len]; exact hrow.after hb) HRT.out (by rw [turnL_len]; omega) HTS.out
        rwa [turnL_len] at this
      clear hs hrow v3
      go_wp2_with fail
      with_reducible refine (HS.out _ d5).mono ?_
      rintro e w6 ⟨rfl, b6⟩
      have k6 := k5.after b6
      have d6 := d5.trans (b6.mono d5.size)
      go_wp2_with fail
      with_reducible refine (HST.out _ b6).mono ?_
      rintro e w7 ⟨rfl, b7⟩
      have k7 := k6.after b7
      have d7 := d6.trans (b7.mono d6.size)
      clear k4 k5 k6 b6 b7 d4 d5 d6 HS HST
      have cc0 := k7.cell 0 rfl
      have cc1 := k7.cell 1 rfl
      by_cases hE : E = 0
      · by_cases hm : t1 = -9223372036854775808
        · have hm' : (t1 == -9223372036854775808) = true := by simp [hm]
          subst hE
          clear hm
          go_wp2_with fail
          with_reducible refine (awake_ok _).mono ?_
          rintro e w9 ⟨rfl, b9⟩
          go_wp2_with fail
          go_ret
          exact ⟨by simp, d7.trans (b9.mono d7.size)⟩
        · have hm' : (t1 == -9223372036854775808) = false := by simp [hm]
          subst hE
          obtain ⟨A1, A2, A3⟩ := fitV_in v1
          obtain rfl := A3 rfl
          obtain ⟨⟨h1, h2⟩, h3, h4⟩ := HT.out
          have HNG := Lib.hid (ng_ok h3 h4 (fitV_yes (fits_iff.2 ⟨by omega, by omega⟩)))
          have HSB := Lib.hid (sum_two (t0 + t1) (-t1) t0 0 ⟨A1, A2⟩ ⟨by omega, by omega⟩ (by rw [show t0 + t1 + -t1 = t0 by omega]; exact fitV_yes (fits_iff.2 ⟨h1, h2⟩)))
          clear hm h1 h2 h3 h4 A1 A2 A3 v1
          go_wp2_with fail
          clear cc0 cc1
          with_reducible refine (HNG.out _).mono ?_
          rintro e w8 ⟨rfl, b8⟩
          have k8 := k7.after b8
          have d8 := d7.trans (b8.mono d7.size)
          go_wp2_with fail
          with_reducible refine (HSB.out _).mono ?_
          rintro e w10 ⟨rfl, b10⟩
          have k10 := k8.after b10
          have d10 := d8.trans (b10.mono d8.size)
          have cc0 := k10.cell 0 rfl
          clear b8 b10 k8 d8 k7 d7
          go_wp2_with fail
          with_reducible refine (awake_ok _).mono ?_
          rintro e w9 ⟨rfl, b9⟩
          go_wp2_with fail
          go_ret
          exact ⟨by simp, d10.trans (b9.mono d10.size)⟩
      · have hE' : (E == 0) = false := by simp [hE]
        have hE2 : (E != 0) = true := by simp [hE]
        clear hE
        go_wp2_with fail
        with_reducible refine (awake_ok _).mono ?_
        rintro e w9 ⟨rfl, b9⟩
        go_wp2_with fail
        go_ret
        exact ⟨by simp, d7.trans (b9.mono d7.size)⟩

open Go.ChangeShapes Go.WideShapes Go.ChangeAt in
theorem pair_arg {H : Type} {enc : TypeId × Value → H} {base : Nat} {W : World} {v : Value} {d : DataW H} {p : List MemPlace} (h : DataW.Trod enc Try.prog W 0 (fun _ => true) true 42 v d p) (ok : Value.okWide Try.prog W .any base 42 v) :
    ∃ d0 d1 : Int, v = .agg #[.int .i64 d0, .int .i64 d1] ∧ (-9223372036854775808 ≤ d0 ∧ d0 ≤ 9223372036854775807) ∧ (-9223372036854775808 ≤ d1 ∧ d1 ≤ 9223372036854775807) := by
  obtain ⟨cs, rfl⟩ := okWide_agg (by kernel_rfl) ok
  have hl := arg_leaves (d := 3) (ls := [3, 3]) (by kernel_rfl) h
  obtain ⟨c0, cs0, e0, h0, hl⟩ := hl.cons
  obtain ⟨c1, cs1, e1, h1, hl⟩ := hl.cons
  obtain ⟨d0, rfl, f0⟩ := h0.int Try.underlying3
  obtain ⟨d1, rfl, f1⟩ := h1.int Try.underlying3
  obtain rfl := hl.nil
  obtain ⟨l⟩ := cs
  simp only [Value.cells] at e0
  subst e0
  subst e1
  exact ⟨d0, d1, rfl, wf_int f0, wf_int f1⟩
open Go.ChangeShapes Go.WideShapes Go.ChangeAt in
theorem walk_AmountOrder {H : Type} (enc : TypeId × Value → H) (base : Nat) (W : World) (v : Value) (d : DataW H) (p : List MemPlace) (h : DataW.Trod enc Try.prog W 0 (fun _ => true) true 42 v d p) (ok : Value.okWide Try.prog W .any base 42 v)
    (v' : Value) (d' : DataW H) (p' : List MemPlace) (h' : DataW.Trod enc Try.prog W 0 (fun _ => true) true 27 v' d' p') (ok' : Value.okWide Try.prog W .any base 27 v') (fr : Int) (wf : (Lit.int .i64 fr).wf = true) :
    Calls Try.prog 8 #[v, v', .int .i64 fr] W fun e w' => e = .returned (.bool true) ∧ Below W.heap.size W w' := by
  obtain ⟨d0, d1, rfl, g0, g1⟩ := pair_arg h ok
  obtain ⟨a, cap, xs, rfl, hr, hx⟩ := ints_arg h' ok'
  exact order_ok d0 d1 g0.1 g0.2 g1.1 g1.2 a cap xs hr fr (wf_int wf).1 (wf_int wf).2 W hx

end Go.Proofs.Ytncodoaphfeefaa
