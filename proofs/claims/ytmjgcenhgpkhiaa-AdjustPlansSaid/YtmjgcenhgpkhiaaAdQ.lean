/- The statement AdjustBack: the walk. -/
import Derived.Test.YtmjgcenhgpkhiaaAdP
namespace Go.Proofs.Ytmjgcenhgpkhiaa
open Go.RowKit Go.Sort Go.Shelf
set_option linter.unusedVariables false
set_option linter.unusedSimpArgs false

theorem flowsOf_len {l : List Lv} (hl : (l.map Lv.ky).Nodup) : (flowsOf l).length ≤ l.length := by
  obtain ⟨h1, h2⟩ := flowsOf_ok l hl
  have hn : (flowsOf l).Nodup := h1.nodup
  have := nodup_len (flowsOf l) (l.map fun x => (⟨x.d, x.c, x.a⟩ : Fl)) hn fun y hy => by
    obtain ⟨x, hx, e⟩ := (h2 y).1 hy
    exact List.mem_map.2 ⟨x, hx, e.symm⟩
  rwa [List.length_map] at this
set_option maxHeartbeats 16000000 in
set_option maxRecDepth 100000 in
theorem back_law (a : Option Addr) (cap : Nat) (l : List Lv) (a' : Option Addr) (cap' : Nat) (f : List Fl) (hl0 : l.length ≤ 9223372036854775807) (hf0 : f.length ≤ 9223372036854775807) (w : World) (h : SlG w 4 encL a cap l) (h' : SlG w 3 encW a' cap' f) (hwf : ∀ x ∈ l, Lv.Ok x) :
    Calls Try.prog 5 #[.slice a l.length cap, .slice a' f.length cap'] w (TrueEnd w) := by
  obtain ⟨i0, hi, hz0, hz1, hz2⟩ := info_parts infoLv
  obtain ⟨j0, hj, hy0, hy1, hy2⟩ := info_parts infoCg
  have H := Lib.hid h
  have H' := Lib.hid h'
  have HWf := Lib.hid hwf
  have HB0 : Hid (Below w.heap.size w w) := Below.refl _ _
  clear h h' hwf
  go_enter Try.func5, Try.ntmps5
  by_cases h1 : 30 < l.length
  · have d1 : decide (30 < l.length) = true := decide_eq_true h1
    have d2 : decide ((30 : Int) < (l.length : Int)) = true := decide_eq_true (by omega)
    clear h1
    go_wp2_with fail
    with_reducible refine (awake_ok _).mono ?_
    rintro e w90 ⟨rfl, hb90⟩
    go_wp2_with fail
    go_ret
    exact ⟨rfl, HB0.out.trans (hb90.mono HB0.out.size)⟩
  have d1 : decide (30 < l.length) = false := decide_eq_false h1
  have d2 : decide ((30 : Int) < (l.length : Int)) = false := decide_eq_false (by omega)
  by_cases h2 : 30 < f.length
  · have d3 : decide (30 < f.length) = true := decide_eq_true h2
    have d4 : decide ((30 : Int) < (f.length : Int)) = true := decide_eq_true (by omega)
    clear h1 h2
    go_wp2_with fail
    with_reducible refine (awake_ok _).mono ?_
    rintro e w90 ⟨rfl, hb90⟩
    go_wp2_with fail
    go_ret
    exact ⟨rfl, HB0.out.trans (hb90.mono HB0.out.size)⟩
  have d3 : decide (30 < f.length) = false := decide_eq_false h2
  have d4 : decide ((30 : Int) < (f.length : Int)) = false := decide_eq_false (by omega)
  have hl : l.length ≤ 30 := by omega
  have hf : f.length ≤ 30 := by omega
  have HC1 := Lib.hid (plan_ok a cap l a' cap' f w H.out H'.out (by omega) (by omega) HWf.out)
  clear h1 h2
  go_wp2_with fail
  with_reducible refine HC1.out.mono ?_
  rintro e w1 ⟨a1, c1, p, rfl, hs1, hp1, hn1, hb1, _, _⟩
  have HB1 := Lib.hid hb1
  clear d1 d2 d3 d4 HC1
  by_cases hE : planE l f ≠ 0
  · obtain rfl := hn1 hE
    have d5 : (planE l f == 0) = false := by rw [beq_eq_false_iff_ne]; exact hE
    obtain ⟨E, hEE⟩ : ∃ E, planE l f = E := ⟨_, rfl⟩
    rw [hEE] at d5 ⊢
    clear hp1 hn1 hE hEE hs1 hb1
    go_wp2_with fail
    with_reducible refine (awake_ok _).mono ?_
    rintro e w90 ⟨rfl, hb90⟩
    go_wp2_with fail
    go_ret
    exact ⟨rfl, HB1.out.trans (hb90.mono HB1.out.size)⟩
  replace hE : planE l f = 0 := Decidable.of_not_not hE
  have HPlan := Lib.hid (hp1 hE)
  have HS1 := Lib.hid hs1
  have hck : ckE l = 0 := by
    unfold planE at hE
    by_cases hc : ckE l = 0
    · exact hc
    · rw [if_neg hc] at hE; exact hE
  have hob : ordB f = true := by
    unfold planE at hE
    rw [if_pos hck] at hE
    unfold ordE at hE
    split at hE
    · assumption
    · cases hE
  have HCk := Lib.hid hck
  have HOb := Lib.hid hob
  rw [hE]
  clear hp1 hn1 hE hck hob hs1 hb1
  have z1 := HB1.out.size
  have hap := apply_ok a cap l a1 c1 p f w1 (H.out.after HB1.out) HS1.out.g (by omega) (by have := plan_len HPlan.out; omega) HWf.out (fun _ => ⟨HOb.out, HPlan.out⟩)
  have e1 : apF l f = f := if_pos HCk.out
  rw [e1, HCk.out] at hap
  have HA := Lib.hid hap
  clear hap e1
  go_wp2_with fail
  with_reducible refine HA.out.mono ?_
  rintro e w2 ⟨a2, c2, rfl, hs2, hb2⟩
  have HB2 := Lib.hid hb2
  have HFl := Lib.hid (flows_ok a2 a' c2 cap' f w2 hs2.recs (H'.out.after (HB1.out.trans (hb2.mono z1))).recs (by omega))
  have hpl := plan_len HPlan.out
  have ew : IntKind.i64.wrap ((l.length : Int) + (f.length : Int)) = (l.length : Int) + (f.length : Int) := IntWalk.i64_in _ (by omega)
  have d3 : decide ((l.length : Int) + (f.length : Int) < (p.length : Int)) = false := decide_eq_false (by omega)
  have d4 : decide (l.length + f.length < p.length) = false := decide_eq_false (by omega)
  clear hs2 hb2 HA
  go_wp2_with fail
  with_reducible refine HFl.out.mono ?_
  rintro e w3 ⟨rfl, hb3⟩
  have z2 := HB2.out.size
  have HB3 : Hid (Below w1.heap.size w1 w3) := HB2.out.trans (hb3.mono z2)
  clear hb3 HFl HB2
  go_wp2_with fail
  go_loopw [9] (fun i wr => ∃ j : Nat, j ≤ p.length ∧ i = .int .i64 j ∧ Hid (Below w1.heap.size w1 wr)) (fun i _ => p.length - (intOf i).toNat)
  case atStart => exact ⟨0, by omega, rfl, HB3⟩
  case round =>
    obtain ⟨j, hj, rfl, HBq⟩ := hrel
    have HS3 := HS1.out.after HBq.out
    by_cases hlt : j < p.length
    · have hx := List.getElem?_eq_getElem hlt
      obtain ⟨x, hy⟩ : ∃ x, p[j] = x := ⟨_, rfl⟩
      rw [hy] at hx
      rcases HS3.sh with ⟨_, h0, _⟩ | ⟨b, o, rfl, hbl⟩
      · rw [h0] at hlt; exact absurd hlt (by simp)
      have hlk := plan_like HCk.out HPlan.out x (by rw [← hy]; exact List.getElem_mem _)
      obtain ⟨xn, xd, xc, xo, xw⟩ := x
      dsimp only at hlk
      have p0 : wr.cell? ⟨b, o + j * 5, none⟩ = some (.int .i64 xn) := RecsAt.cell HS3.recs rfl hlt hx (j := 0) rfl
      have p1 : wr.cell? ⟨b, o + j * 5 + 1, none⟩ = some (.int .i64 xd) := RecsAt.cell HS3.recs rfl hlt hx (j := 1) rfl
      have p2 : wr.cell? ⟨b, o + j * 5 + 2, none⟩ = some (.int .i64 xc) := RecsAt.cell HS3.recs rfl hlt hx (j := 2) rfl
      have p3 : wr.cell? ⟨b, o + j * 5 + 3, none⟩ = some (.int .i64 xo) := RecsAt.cell HS3.recs rfl hlt hx (j := 3) rfl
      have p4 : wr.cell? ⟨b, o + j * 5 + 4, none⟩ = some (.int .i64 xw) := RecsAt.cell HS3.recs rfl hlt hx (j := 4) rfl
      have i1 : (0 : Int) ≤ (j : Int) := by omega
      have i2 : (j : Int) < (p.length : Int) := by omega
      have q1 : (xo == xw) = false := by rw [beq_eq_false_iff_ne]; exact hlk.1
      have q2 : (xn == -1) = (xo == 0) := by
        by_cases h : xo = 0
        · rw [hlk.2.2 h, h]; rfl
        · rw [beq_eq_false_iff_ne.2 h, beq_eq_false_iff_ne.2 fun e => h (hlk.2.1 e)]
      obtain ⟨B, hB⟩ : ∃ B, (xo == 0) = B := ⟨_, rfl⟩
      rw [hB] at q2
      have q3 : (B != B) = false := by cases B <;> rfl
      have q4 : (B == B) = true := by cases B <;> rfl
      by_cases hj0 : j = 0
      · have s3 : decide ((0 : Int) < (j : Int)) = false := decide_eq_false (by omega)
        have s4 : decide (0 < j) = false := decide_eq_false (by omega)
        clear hx hy hlk HS3 hj0
        go_wp2_with fail
        simp only [List.append_eq, List.cons_append, List.nil_append]
        refine wp_region_quiet_lit (by kernel_rfl) (by kernel_rfl) ?_
        repeat (go_big_quiet_step (fail))
        refine wpQuiet_nil ?_
        intro _ hw'
        obtain ⟨nq, hw''⟩ := hw'
        subst hw''
        go_wp2_with fail
        go_roundw
        case rel => exact ⟨j + 1, by omega, by go_num, HBq.out.trans (below_draws _ _)⟩
        case measure => simp [intOf]; omega
      · obtain ⟨k, hk⟩ : ∃ k, j = k + 1 := ⟨j - 1, by omega⟩
        have hkl : k < p.length := by omega
        have hx' := List.getElem?_eq_getElem hkl
        obtain ⟨y, hy'⟩ : ∃ y, p[k] = y := ⟨_, rfl⟩
        rw [hy'] at hx'
        have hlt' : ltK y.ky (⟨xn, xd, xc, xo, xw⟩ : Cg).ky := by
          have := List.pairwise_iff_getElem.1 HPlan.out.ra k j hkl hlt (by omega)
          rw [hy, hy'] at this
          exact this
        obtain ⟨yn, yd, yc, yo, yw⟩ := y
        have r1 : wr.cell? ⟨b, o + k * 5 + 1, none⟩ = some (.int .i64 yd) := RecsAt.cell HS3.recs rfl hkl hx' (j := 1) rfl
        have r2 : wr.cell? ⟨b, o + k * 5 + 2, none⟩ = some (.int .i64 yc) := RecsAt.cell HS3.recs rfl hkl hx' (j := 2) rfl
        have s1 : (j : Int) - 1 = (k : Int) := by omega
        have s2 : IntKind.i64.wrap ((j : Int) - 1) = (k : Int) := by rw [s1]; exact IntWalk.i64_in _ (by omega)
        have s3 : decide ((0 : Int) < (j : Int)) = true := decide_eq_true (by omega)
        have s4 : decide (0 < j) = true := decide_eq_true (by omega)
        have i3 : (0 : Int) ≤ (k : Int) := by omega
        have i4 : (k : Int) < (p.length : Int) := by omega
        have hcases : yd < xd ∨ (yd = xd ∧ yc < xc) := hlt'
        have s1H := Lib.hid s1
        clear hx hy hlk HS3 hx' hy' hlt' hk s1
        rcases hcases with hc | ⟨rfl, hc⟩
        · have t1 : decide (xd < yd) = false := decide_eq_false (by omega)
          have t2 : (xd == yd) = false := by rw [beq_eq_false_iff_ne]; omega
          clear hc
          go_wp2_with fail
          simp only [List.append_eq, List.cons_append, List.nil_append]
          refine wp_region_quiet_lit (by kernel_rfl) (by kernel_rfl) ?_
          repeat (go_big_quiet_step (fail))
          refine wpQuiet_nil ?_
          intro _ hw'
          obtain ⟨nq, hw''⟩ := hw'
          subst hw''
          go_wp2_with fail
          go_roundw
          case rel => exact ⟨j + 1, by omega, by go_num, HBq.out.trans (below_draws _ _)⟩
          case measure => simp [intOf]; omega
        · have t1 : decide (yd < yd) = false := decide_eq_false (by omega)
          have t2 : decide (xc ≤ yc) = false := decide_eq_false (by omega)
          clear hc
          go_wp2_with fail
          simp only [List.append_eq, List.cons_append, List.nil_append]
          refine wp_region_quiet_lit (by kernel_rfl) (by kernel_rfl) ?_
          repeat (go_big_quiet_step (fail))
          refine wpQuiet_nil ?_
          intro _ hw'
          obtain ⟨nq, hw''⟩ := hw'
          subst hw''
          go_wp2_with fail
          go_roundw
          case rel => exact ⟨j + 1, by omega, by go_num, HBq.out.trans (below_draws _ _)⟩
          case measure => simp [intOf]; omega
    · obtain rfl : j = p.length := by omega
      have hck := HCk.out
      have hnd := (ckE_ok hck).2.2.1
      have hfl := flowsOf_len hnd
      obtain ⟨hob2, hpn⟩ := plan_none hck
      have hb03 : Below w.heap.size w wr := HB1.out.trans (HBq.out.mono z1)
      have hap := apply_ok a cap l none 0 [] (flowsOf l) wr (H.out.after hb03) ⟨RowsAt.nil _ _ _ _, Nat.le_refl _, Nat.zero_le _, fun _ => ⟨rfl, rfl⟩, .inl rfl⟩ (by omega) (by simp) HWf.out (fun _ => ⟨hob2, hpn⟩)
      have e1 : apF l (flowsOf l) = flowsOf l := if_pos hck
      rw [e1, hck] at hap
      have hE : planE l (flowsOf l) = 0 := by unfold planE ordE; rw [if_pos hck, if_pos hob2]
      have HA : Hid (Calls Try.prog 17 #[.slice a l.length cap, .slice none 0 0] wr (ApEnd wr (flowsOf l) 0)) := hap
      have HE := Lib.hid hE
      have HPn := Lib.hid hpn
      have HB03 := Lib.hid hb03
      clear hap e1 hE hpn hob2 hck hnd hb03 HS3
      go_wp2_with fail
      with_reducible refine HA.out.mono ?_
      rintro e w4 ⟨a4, c4, rfl, hs4, hb4⟩
      have z3 := HB03.out.size
      have HB4 : Hid (Below w.heap.size w w4) := HB03.out.trans (hb4.mono z3)
      have HPk := Lib.hid (plan_ok a cap l a4 c4 (flowsOf l) w4 (H.out.after HB4.out) hs4.g (by omega) (by omega) HWf.out)
      clear hs4 hb4 HA
      go_wp2_with fail
      with_reducible refine HPk.out.mono ?_
      rintro e w5 ⟨a5, c5, q, rfl, _, hq, _, hb5, _, _⟩
      obtain rfl : q = [] := (hq HE.out).one HPn.out
      rw [HE.out]
      have z4 := HB4.out.size
      have HB5 : Hid (Below w.heap.size w w5) := HB4.out.trans (hb5.mono z4)
      clear hq hb5 HPk
      go_wp2_with fail
      with_reducible refine (awake_ok _).mono ?_
      rintro e w90 ⟨rfl, hb90⟩
      go_wp2_with fail
      go_ret
      exact ⟨rfl, HB5.out.trans (hb90.mono HB5.out.size)⟩

end Go.Proofs.Ytmjgcenhgpkhiaa
