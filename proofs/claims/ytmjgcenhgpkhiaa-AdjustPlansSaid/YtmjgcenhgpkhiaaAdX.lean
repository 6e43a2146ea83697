/- The statement AdjustPlans: the walk. -/
import Derived.Test.YtmjgcenhgpkhiaaAdW
namespace Go.Proofs.Ytmjgcenhgpkhiaa
open Go.RowKit Go.Sort Go.Shelf
set_option linter.unusedVariables false
set_option linter.unusedSimpArgs false

theorem rc_neq (n d c o x : Int) (w : World) : (binOp .neq 39 (.agg #[.int .i64 n, .int .i64 d, .int .i64 c, .int .i64 o, .int .i64 x]) (.agg #[.int .i64 n, .int .i64 d, .int .i64 c, .int .i64 o, .int .i64 x])).run Try.prog w = .ok (.bool false) w := by
  obtain ⟨i, hi⟩ : ∃ i, Try.prog.info? 3 = some i := Option.isSome_iff_exists.1 (by kernel_rfl)
  have := eq_array (P := Try.prog) w (t := 39) Try.underlying39 hi Try.underlying3 (by kernel_rfl) (by kernel_rfl) [n, d, c, o, x] [n, d, c, o, x] rfl rfl
  rw [decide_eq_true rfl] at this
  have h' : (Op.equalIn 10000 39 (.agg #[.int .i64 n, .int .i64 d, .int .i64 c, .int .i64 o, .int .i64 x]) (.agg #[.int .i64 n, .int .i64 d, .int .i64 c, .int .i64 o, .int .i64 x])).run Try.prog w = .ok true w := this
  rw [run_neq_struct, h']
  rfl
def IntIs (w : World) (n : Int) (e : Ending) (w' : World) : Prop := e = .returned (.int .i64 n) ∧ Below w.heap.size w w'
def BoolIs (w : World) (b : Bool) (e : Ending) (w' : World) : Prop := e = .returned (.bool b) ∧ Below w.heap.size w w'
set_option maxHeartbeats 16000000 in
set_option maxRecDepth 100000 in
theorem plans_law (a : Option Addr) (cap : Nat) (l : List Lv) (a' : Option Addr) (cap' : Nat) (f : List Fl) (hl0 : l.length ≤ 9223372036854775807) (hf0 : f.length ≤ 9223372036854775807) (w : World) (h : SlG w 4 encL a cap l) (h' : SlG w 3 encW a' cap' f) (hwf : ∀ x ∈ l, Lv.Ok x) :
    Calls Try.prog 3 #[.slice a l.length cap, .slice a' f.length cap'] w (TrueEnd w) := by
  have H := Lib.hid h
  have H' := Lib.hid h'
  have HWf := Lib.hid hwf
  have HB0 : Hid (Below w.heap.size w w) := Below.refl _ _
  clear h h' hwf
  go_enter Try.func3, Try.ntmps3
  by_cases h1 : 30 < l.length
  · have d1 : decide (30 < l.length) = true := decide_eq_true h1
    have d2 : decide ((30 : Int) < (l.length : Int)) = true := decide_eq_true (by omega)
    clear h1
    go_wp2_with fail
    with_reducible refine (awake_ok _).mono ?_
    rintro e w90 ⟨rfl, hb90⟩
    go_wp2_with fail
    go_ret
    exact ⟨rfl, HB0.out.trans (hb90.mono HB0.out.size)⟩
  have d1 : decide (30 < l.length) = false := decide_eq_false h1
  have d2 : decide ((30 : Int) < (l.length : Int)) = false := decide_eq_false (by omega)
  by_cases h2 : 30 < f.length
  · have d3 : decide (30 < f.length) = true := decide_eq_true h2
    have d4 : decide ((30 : Int) < (f.length : Int)) = true := decide_eq_true (by omega)
    clear h1 h2
    go_wp2_with fail
    with_reducible refine (awake_ok _).mono ?_
    rintro e w90 ⟨rfl, hb90⟩
    go_wp2_with fail
    go_ret
    exact ⟨rfl, HB0.out.trans (hb90.mono HB0.out.size)⟩
  have d3 : decide (30 < f.length) = false := decide_eq_false h2
  have d4 : decide ((30 : Int) < (f.length : Int)) = false := decide_eq_false (by omega)
  have hl : l.length ≤ 30 := by omega
  have hf : f.length ≤ 30 := by omega
  clear h1 h2
  by_cases hC : ckE l = 0
  · cases hB : ordB f with
    | false =>
      have HCk := Lib.hid hC
      have HBo := Lib.hid hB
      clear hC hB
      have HL1 := Lib.hid (live_ok a cap l w H.out (by omega))
      have HO2 : Hid (∀ W, Below w.heap.size w W → Calls Try.prog 10 #[.slice a' f.length cap'] W (BoolIs W false)) := fun W hW => by
        have h := reford_ok a' cap' f W (H'.out.after hW) (by omega)
        unfold RoEnd at h
        rw [HBo.out] at h
        exact h
      have HP3 : Hid (∀ W, Below w.heap.size w W → Calls Try.prog 11 #[.slice a l.length cap, .slice a' f.length cap'] W (PlanEnd W l f)) := fun W hW => plan_ok a cap l a' cap' f W (H.out.after hW) (H'.out.after hW) (by omega) (by omega) HWf.out
      have HC4 : Hid (∀ W, Below w.heap.size w W → Calls Try.prog 12 #[.slice a l.length cap] W (IntIs W 0)) := fun W hW => by
        have h := check_ok a cap l W (H.out.after hW) (by omega) HWf.out
        unfold CkEnd at h
        rw [HCk.out] at h
        exact h
      have HR5 : Hid (∀ W, Below w.heap.size w W → Calls Try.prog 13 #[.slice a' f.length cap'] W (IntIs W 13)) := fun W hW => by
        have h := ordered_ok a' cap' f W (H'.out.after hW) (by omega)
        unfold OrdEnd at h
        rw [show ordE f = 13 from by unfold ordE; rw [HBo.out]; rfl] at h
        exact h
      go_wp2_with fail
      with_reducible refine HL1.out.mono ?_
      rintro e w1 ⟨a1, c1, rfl, hs1, hb1⟩
      have hc1 := refck_ok a1 c1 l w1 hs1.g (by omega)
      unfold CkEnd at hc1
      rw [HCk.out] at hc1
      have HK1 : Hid (Calls Try.prog 8 #[.slice a1 l.length c1] w1 (IntIs w1 0)) := hc1
      have HB1 := Lib.hid hb1
      clear hs1 hc1 hb1 HL1
      go_wp2_with fail
      with_reducible refine HK1.out.mono ?_
      rintro e w2 ⟨rfl, hb2⟩
      have hB2 := HB1.out.trans (hb2.mono HB1.out.size)
      have HQ2 := Lib.hid (HO2.out w2 hB2)
      have HB2 := Lib.hid hB2
      clear hb2 hB2 HK1 HO2 HB1
      go_wp2_with fail
      with_reducible refine HQ2.out.mono ?_
      rintro e w3 ⟨rfl, hb3⟩
      have hB3 := HB2.out.trans (hb3.mono HB2.out.size)
      have HQ3 := Lib.hid (HP3.out w3 hB3)
      have HB3 := Lib.hid hB3
      clear hb3 hB3 HQ2 HP3 HB2
      go_wp2_with fail
      with_reducible refine HQ3.out.mono ?_
      rintro e w4 ⟨a4, c4, p, rfl, hs4, hp4, hn4, hb4, _, _⟩
      rw [show planE l f = 13 from by unfold planE ordE; rw [HCk.out, HBo.out]; first | rfl | (rw [if_neg (by decide)]) | simp] at hp4 hn4 ⊢
      have hB4 := HB3.out.trans (hb4.mono HB3.out.size)
      have HQ4 := Lib.hid (HC4.out w4 hB4)
      have HB4 := Lib.hid hB4
      have HS4 := Lib.hid hs4
      have HP4 := Lib.hid hp4
      have HN4 := Lib.hid hn4
      clear hs4 hp4 hn4 hb4 hB4 HQ3 HC4 HB3
      go_wp2_with fail
      with_reducible refine HQ4.out.mono ?_
      rintro e w5 ⟨rfl, hb5⟩
      have hB5 := HB4.out.trans (hb5.mono HB4.out.size)
      have HQ5 := Lib.hid (HR5.out w5 hB5)
      have HS5 : Hid (SlAt w5 5 encG a4 c4 p) := HS4.out.after hb5
      have HB5 := Lib.hid hB5
      clear hb5 hB5 HQ4 HR5 HB4 HS4
      go_wp2_with fail
      with_reducible refine HQ5.out.mono ?_
      rintro e w6 ⟨rfl, hb6⟩
      have HS6 : Hid (SlAt w6 5 encG a4 c4 p) := HS5.out.after hb6
      have HB6 := Lib.hid (HB5.out.trans (hb6.mono HB5.out.size))
      clear hb6 HQ5 HS5 HB5
      have hp0 := HN4.out (by decide)
      subst hp0
      clear HP4 HN4 HS6
      go_wp2_with fail
      with_reducible refine (awake_ok _).mono ?_
      rintro e w90 ⟨rfl, hb90⟩
      go_wp2_with fail
      go_ret
      exact ⟨rfl, HB6.out.trans (hb90.mono HB6.out.size)⟩
    | true =>
      have HCk := Lib.hid hC
      have HBo := Lib.hid hB
      clear hC hB
      have HL1 := Lib.hid (live_ok a cap l w H.out (by omega))
      have HO2 : Hid (∀ W, Below w.heap.size w W → Calls Try.prog 10 #[.slice a' f.length cap'] W (BoolIs W true)) := fun W hW => by
        have h := reford_ok a' cap' f W (H'.out.after hW) (by omega)
        unfold RoEnd at h
        rw [HBo.out] at h
        exact h
      have HP3 : Hid (∀ W, Below w.heap.size w W → Calls Try.prog 11 #[.slice a l.length cap, .slice a' f.length cap'] W (PlanEnd W l f)) := fun W hW => plan_ok a cap l a' cap' f W (H.out.after hW) (H'.out.after hW) (by omega) (by omega) HWf.out
      have HC4 : Hid (∀ W, Below w.heap.size w W → Calls Try.prog 12 #[.slice a l.length cap] W (IntIs W 0)) := fun W hW => by
        have h := check_ok a cap l W (H.out.after hW) (by omega) HWf.out
        unfold CkEnd at h
        rw [HCk.out] at h
        exact h
      have HR5 : Hid (∀ W, Below w.heap.size w W → Calls Try.prog 13 #[.slice a' f.length cap'] W (IntIs W 0)) := fun W hW => by
        have h := ordered_ok a' cap' f W (H'.out.after hW) (by omega)
        unfold OrdEnd at h
        rw [show ordE f = 0 from by unfold ordE; rw [HBo.out]; rfl] at h
        exact h
      go_wp2_with fail
      with_reducible refine HL1.out.mono ?_
      rintro e w1 ⟨a1, c1, rfl, hs1, hb1⟩
      have hc1 := refck_ok a1 c1 l w1 hs1.g (by omega)
      unfold CkEnd at hc1
      rw [HCk.out] at hc1
      have HK1 : Hid (Calls Try.prog 8 #[.slice a1 l.length c1] w1 (IntIs w1 0)) := hc1
      have HB1 := Lib.hid hb1
      clear hs1 hc1 hb1 HL1
      go_wp2_with fail
      with_reducible refine HK1.out.mono ?_
      rintro e w2 ⟨rfl, hb2⟩
      have hB2 := HB1.out.trans (hb2.mono HB1.out.size)
      have HQ2 := Lib.hid (HO2.out w2 hB2)
      have HB2 := Lib.hid hB2
      clear hb2 hB2 HK1 HO2 HB1
      go_wp2_with fail
      with_reducible refine HQ2.out.mono ?_
      rintro e w3 ⟨rfl, hb3⟩
      have hB3 := HB2.out.trans (hb3.mono HB2.out.size)
      have HQ3 := Lib.hid (HP3.out w3 hB3)
      have HB3 := Lib.hid hB3
      clear hb3 hB3 HQ2 HP3 HB2
      go_wp2_with fail
      with_reducible refine HQ3.out.mono ?_
      rintro e w4 ⟨a4, c4, p, rfl, hs4, hp4, hn4, hb4, _, _⟩
      rw [show planE l f = 0 from by unfold planE ordE; rw [HCk.out, HBo.out]; first | rfl | (rw [if_neg (by decide)]) | simp] at hp4 hn4 ⊢
      have hB4 := HB3.out.trans (hb4.mono HB3.out.size)
      have HQ4 := Lib.hid (HC4.out w4 hB4)
      have HB4 := Lib.hid hB4
      have HS4 := Lib.hid hs4
      have HP4 := Lib.hid hp4
      have HN4 := Lib.hid hn4
      clear hs4 hp4 hn4 hb4 hB4 HQ3 HC4 HB3
      go_wp2_with fail
      with_reducible refine HQ4.out.mono ?_
      rintro e w5 ⟨rfl, hb5⟩
      have hB5 := HB4.out.trans (hb5.mono HB4.out.size)
      have HQ5 := Lib.hid (HR5.out w5 hB5)
      have HS5 : Hid (SlAt w5 5 encG a4 c4 p) := HS4.out.after hb5
      have HB5 := Lib.hid hB5
      clear hb5 hB5 HQ4 HR5 HB4 HS4
      go_wp2_with fail
      with_reducible refine HQ5.out.mono ?_
      rintro e w6 ⟨rfl, hb6⟩
      have HS6 : Hid (SlAt w6 5 encG a4 c4 p) := HS5.out.after hb6
      have HB6 := Lib.hid (HB5.out.trans (hb6.mono HB5.out.size))
      clear hb6 HQ5 HS5 HB5
      have hpl := HP4.out (by trivial)
      obtain rfl := hpl.one (ref_plan (ckE_ok HCk.out).2.2.1 HBo.out)
      have hpn : (rpB l (rpA f l) f).length ≤ 60 := by have := rpB_len l (rpA f l) f; have := rpA_len f l; omega
      have HRf : Hid (∀ W a1 c1, SlG W 4 encL a1 c1 l → Below w.heap.size w W → Calls Try.prog 15 #[.slice a1 l.length c1, .slice a' f.length cap'] W (PutG W (rpB l (rpA f l) f))) := fun W a1 c1 h1 hW => refplan_ok a1 c1 l a' cap' f W h1 (H'.out.after hW) (by omega) (by omega) (ckE_ok HCk.out).2.2.1 (ordB_ok HBo.out).2
      obtain ⟨S, hS⟩ : ∃ S, rpB l (rpA f l) f = S := ⟨_, rfl⟩
      rw [hS] at HRf HS6 hpn ⊢
      have HC7 := Lib.hid (changes_ok a4 c4 S w6 HS6.out.g (by omega))
      clear hpl hS HP4 HN4
      go_wp2_with fail
      with_reducible refine HC7.out.mono ?_
      rintro e w7 ⟨a7, c7, rfl, hs7, hb7⟩
      have hB7 := HB6.out.trans (hb7.mono HB6.out.size)
      have HL8 := Lib.hid (live_ok a cap l w7 (H.out.after hB7) (by omega))
      have HS7 := Lib.hid hs7
      have HB7 := Lib.hid hB7
      clear hs7 hb7 hB7 HC7 HB6 HS6
      go_wp2_with fail
      with_reducible refine HL8.out.mono ?_
      rintro e w8 ⟨a8, c8, rfl, hs8, hb8⟩
      have hB8 := HB7.out.trans (hb8.mono HB7.out.size)
      have HR9 := Lib.hid (HRf.out w8 a8 c8 hs8.g hB8)
      have HS8 : Hid (SlAt w8 5 encG a7 c7 S) := HS7.out.after hb8
      have HB8 := Lib.hid hB8
      clear hs8 hb8 hB8 HL8 HB7 HS7 HRf
      go_wp2_with fail
      with_reducible refine HR9.out.mono ?_
      rintro e w9 ⟨a9, c9, rfl, hs9, hb9⟩
      have HB9 := Lib.hid (HB8.out.trans (hb9.mono HB8.out.size))
      have HX : Hid (RecsAt w9 a7 5 encG S) := (HS8.out.after hb9).recs
      have HY : Hid (RecsAt w9 a9 5 encG S) := hs9.recs
      have e0 : ((S.length : Int) == (S.length : Int)) = true := beq_self_eq_true _
      clear hs9 hb9 HR9 HB8 HS8
      go_wp2_with fail
      go_loopw [11] (fun i wr => ∃ j : Nat, j ≤ S.length ∧ i = .int .i64 j ∧ Hid (Below w9.heap.size w9 wr)) (fun i _ => S.length - (intOf i).toNat)
      case atStart => exact ⟨0, by omega, rfl, Below.refl _ _⟩
      case round =>
        obtain ⟨j, hj, rfl, HBq⟩ := hrel
        by_cases hlt : j < S.length
        · have hx := List.getElem?_eq_getElem hlt
          obtain ⟨x, hy⟩ : ∃ x, S[j] = x := ⟨_, rfl⟩
          rw [hy] at hx
          have hR1 := RowsAt.after HX.out HBq.out
          have hR2 := RowsAt.after HY.out HBq.out
          obtain ⟨b, o, rfl, _⟩ := hR1 (by omega)
          obtain ⟨b', o', rfl, _⟩ := hR2 (by omega)
          obtain ⟨xn, xd, xc, xo, xw⟩ := x
          have p0 : wr.cell? ⟨b, o + j * 5, none⟩ = some (.int .i64 xn) := RecsAt.cell hR1 rfl hlt hx (j := 0) rfl
          have p1 : wr.cell? ⟨b, o + j * 5 + 1, none⟩ = some (.int .i64 xd) := RecsAt.cell hR1 rfl hlt hx (j := 1) rfl
          have p2 : wr.cell? ⟨b, o + j * 5 + 2, none⟩ = some (.int .i64 xc) := RecsAt.cell hR1 rfl hlt hx (j := 2) rfl
          have p3 : wr.cell? ⟨b, o + j * 5 + 3, none⟩ = some (.int .i64 xo) := RecsAt.cell hR1 rfl hlt hx (j := 3) rfl
          have p4 : wr.cell? ⟨b, o + j * 5 + 4, none⟩ = some (.int .i64 xw) := RecsAt.cell hR1 rfl hlt hx (j := 4) rfl
          have q0 : wr.cell? ⟨b', o' + j * 5, none⟩ = some (.int .i64 xn) := RecsAt.cell hR2 rfl hlt hx (j := 0) rfl
          have q1 : wr.cell? ⟨b', o' + j * 5 + 1, none⟩ = some (.int .i64 xd) := RecsAt.cell hR2 rfl hlt hx (j := 1) rfl
          have q2 : wr.cell? ⟨b', o' + j * 5 + 2, none⟩ = some (.int .i64 xc) := RecsAt.cell hR2 rfl hlt hx (j := 2) rfl
          have q3 : wr.cell? ⟨b', o' + j * 5 + 3, none⟩ = some (.int .i64 xo) := RecsAt.cell hR2 rfl hlt hx (j := 3) rfl
          have q4 : wr.cell? ⟨b', o' + j * 5 + 4, none⟩ = some (.int .i64 xw) := RecsAt.cell hR2 rfl hlt hx (j := 4) rfl
          have heq := fun w => rc_neq xn xd xc xo xw w
          have i1 : (0 : Int) ≤ (j : Int) := by omega
          have i2 : (j : Int) < (S.length : Int) := by omega
          clear hx hy hR1 hR2
          go_wp2_with (go_quiet (fail))
          go_roundw
          case rel => exact ⟨j + 1, by omega, by go_num, HBq.out.trans (below_draws _ _)⟩
          case measure => simp [intOf]; omega
        · obtain rfl : j = S.length := by omega
          have HBf := Lib.hid (HB9.out.trans (HBq.out.mono HB9.out.size))
          clear HBq
          go_wp2_with fail
          with_reducible refine (awake_ok _).mono ?_
          rintro e w90 ⟨rfl, hb90⟩
          go_wp2_with fail
          go_ret
          exact ⟨rfl, HBf.out.trans (hb90.mono HBf.out.size)⟩
  · obtain ⟨C, hCe⟩ : ∃ C, ckE l = C := ⟨_, rfl⟩
    have hC0 : C ≠ 0 := by rw [← hCe]; exact hC
    have d5 : (C == 0) = false := by rw [beq_eq_false_iff_ne]; exact hC0
    have d6 : (C == C) = true := beq_self_eq_true C
    have HNz := Lib.hid hC0
    cases hB : ordB f with
    | false =>
      have HCk := Lib.hid hCe
      have HBo := Lib.hid hB
      clear hC hB hCe hC0
      have HL1 := Lib.hid (live_ok a cap l w H.out (by omega))
      have HO2 : Hid (∀ W, Below w.heap.size w W → Calls Try.prog 10 #[.slice a' f.length cap'] W (BoolIs W false)) := fun W hW => by
        have h := reford_ok a' cap' f W (H'.out.after hW) (by omega)
        unfold RoEnd at h
        rw [HBo.out] at h
        exact h
      have HP3 : Hid (∀ W, Below w.heap.size w W → Calls Try.prog 11 #[.slice a l.length cap, .slice a' f.length cap'] W (PlanEnd W l f)) := fun W hW => plan_ok a cap l a' cap' f W (H.out.after hW) (H'.out.after hW) (by omega) (by omega) HWf.out
      have HC4 : Hid (∀ W, Below w.heap.size w W → Calls Try.prog 12 #[.slice a l.length cap] W (IntIs W C)) := fun W hW => by
        have h := check_ok a cap l W (H.out.after hW) (by omega) HWf.out
        unfold CkEnd at h
        rw [HCk.out] at h
        exact h
      have HR5 : Hid (∀ W, Below w.heap.size w W → Calls Try.prog 13 #[.slice a' f.length cap'] W (IntIs W 13)) := fun W hW => by
        have h := ordered_ok a' cap' f W (H'.out.after hW) (by omega)
        unfold OrdEnd at h
        rw [show ordE f = 13 from by unfold ordE; rw [HBo.out]; rfl] at h
        exact h
      go_wp2_with fail
      with_reducible refine HL1.out.mono ?_
      rintro e w1 ⟨a1, c1, rfl, hs1, hb1⟩
      have hc1 := refck_ok a1 c1 l w1 hs1.g (by omega)
      unfold CkEnd at hc1
      rw [HCk.out] at hc1
      have HK1 : Hid (Calls Try.prog 8 #[.slice a1 l.length c1] w1 (IntIs w1 C)) := hc1
      have HB1 := Lib.hid hb1
      clear hs1 hc1 hb1 HL1
      go_wp2_with fail
      with_reducible refine HK1.out.mono ?_
      rintro e w2 ⟨rfl, hb2⟩
      have hB2 := HB1.out.trans (hb2.mono HB1.out.size)
      have HQ2 := Lib.hid (HO2.out w2 hB2)
      have HB2 := Lib.hid hB2
      clear hb2 hB2 HK1 HO2 HB1
      go_wp2_with fail
      with_reducible refine HQ2.out.mono ?_
      rintro e w3 ⟨rfl, hb3⟩
      have hB3 := HB2.out.trans (hb3.mono HB2.out.size)
      have HQ3 := Lib.hid (HP3.out w3 hB3)
      have HB3 := Lib.hid hB3
      clear hb3 hB3 HQ2 HP3 HB2
      go_wp2_with fail
      with_reducible refine HQ3.out.mono ?_
      rintro e w4 ⟨a4, c4, p, rfl, hs4, hp4, hn4, hb4, _, _⟩
      rw [show planE l f = C from by unfold planE ordE; rw [HCk.out, HBo.out]; first | rfl | (rw [if_neg HNz.out]) | simp] at hp4 hn4 ⊢
      have hB4 := HB3.out.trans (hb4.mono HB3.out.size)
      have HQ4 := Lib.hid (HC4.out w4 hB4)
      have HB4 := Lib.hid hB4
      have HS4 := Lib.hid hs4
      have HP4 := Lib.hid hp4
      have HN4 := Lib.hid hn4
      clear hs4 hp4 hn4 hb4 hB4 HQ3 HC4 HB3
      go_wp2_with fail
      with_reducible refine HQ4.out.mono ?_
      rintro e w5 ⟨rfl, hb5⟩
      have hB5 := HB4.out.trans (hb5.mono HB4.out.size)
      have HQ5 := Lib.hid (HR5.out w5 hB5)
      have HS5 : Hid (SlAt w5 5 encG a4 c4 p) := HS4.out.after hb5
      have HB5 := Lib.hid hB5
      clear hb5 hB5 HQ4 HR5 HB4 HS4
      go_wp2_with fail
      with_reducible refine HQ5.out.mono ?_
      rintro e w6 ⟨rfl, hb6⟩
      have HS6 : Hid (SlAt w6 5 encG a4 c4 p) := HS5.out.after hb6
      have HB6 := Lib.hid (HB5.out.trans (hb6.mono HB5.out.size))
      clear hb6 HQ5 HS5 HB5
      have hp0 := HN4.out HNz.out
      subst hp0
      clear HP4 HN4 HS6
      go_wp2_with fail
      with_reducible refine (awake_ok _).mono ?_
      rintro e w90 ⟨rfl, hb90⟩
      go_wp2_with fail
      go_ret
      exact ⟨rfl, HB6.out.trans (hb90.mono HB6.out.size)⟩
    | true =>
      have HCk := Lib.hid hCe
      have HBo := Lib.hid hB
      clear hC hB hCe hC0
      have HL1 := Lib.hid (live_ok a cap l w H.out (by omega))
      have HO2 : Hid (∀ W, Below w.heap.size w W → Calls Try.prog 10 #[.slice a' f.length cap'] W (BoolIs W true)) := fun W hW => by
        have h := reford_ok a' cap' f W (H'.out.after hW) (by omega)
        unfold RoEnd at h
        rw [HBo.out] at h
        exact h
      have HP3 : Hid (∀ W, Below w.heap.size w W → Calls Try.prog 11 #[.slice a l.length cap, .slice a' f.length cap'] W (PlanEnd W l f)) := fun W hW => plan_ok a cap l a' cap' f W (H.out.after hW) (H'.out.after hW) (by omega) (by omega) HWf.out
      have HC4 : Hid (∀ W, Below w.heap.size w W → Calls Try.prog 12 #[.slice a l.length cap] W (IntIs W C)) := fun W hW => by
        have h := check_ok a cap l W (H.out.after hW) (by omega) HWf.out
        unfold CkEnd at h
        rw [HCk.out] at h
        exact h
      have HR5 : Hid (∀ W, Below w.heap.size w W → Calls Try.prog 13 #[.slice a' f.length cap'] W (IntIs W 0)) := fun W hW => by
        have h := ordered_ok a' cap' f W (H'.out.after hW) (by omega)
        unfold OrdEnd at h
        rw [show ordE f = 0 from by unfold ordE; rw [HBo.out]; rfl] at h
        exact h
      go_wp2_with fail
      with_reducible refine HL1.out.mono ?_
      rintro e w1 ⟨a1, c1, rfl, hs1, hb1⟩
      have hc1 := refck_ok a1 c1 l w1 hs1.g (by omega)
      unfold CkEnd at hc1
      rw [HCk.out] at hc1
      have HK1 : Hid (Calls Try.prog 8 #[.slice a1 l.length c1] w1 (IntIs w1 C)) := hc1
      have HB1 := Lib.hid hb1
      clear hs1 hc1 hb1 HL1
      go_wp2_with fail
      with_reducible refine HK1.out.mono ?_
      rintro e w2 ⟨rfl, hb2⟩
      have hB2 := HB1.out.trans (hb2.mono HB1.out.size)
      have HQ2 := Lib.hid (HO2.out w2 hB2)
      have HB2 := Lib.hid hB2
      clear hb2 hB2 HK1 HO2 HB1
      go_wp2_with fail
      with_reducible refine HQ2.out.mono ?_
      rintro e w3 ⟨rfl, hb3⟩
      have hB3 := HB2.out.trans (hb3.mono HB2.out.size)
      have HQ3 := Lib.hid (HP3.out w3 hB3)
      have HB3 := Lib.hid hB3
      clear hb3 hB3 HQ2 HP3 HB2
      go_wp2_with fail
      with_reducible refine HQ3.out.mono ?_
      rintro e w4 ⟨a4, c4, p, rfl, hs4, hp4, hn4, hb4, _, _⟩
      rw [show planE l f = C from by unfold planE ordE; rw [HCk.out, HBo.out]; first | rfl | (rw [if_neg HNz.out]) | simp] at hp4 hn4 ⊢
      have hB4 := HB3.out.trans (hb4.mono HB3.out.size)
      have HQ4 := Lib.hid (HC4.out w4 hB4)
      have HB4 := Lib.hid hB4
      have HS4 := Lib.hid hs4
      have HP4 := Lib.hid hp4
      have HN4 := Lib.hid hn4
      clear hs4 hp4 hn4 hb4 hB4 HQ3 HC4 HB3
      go_wp2_with fail
      with_reducible refine HQ4.out.mono ?_
      rintro e w5 ⟨rfl, hb5⟩
      have hB5 := HB4.out.trans (hb5.mono HB4.out.size)
      have HQ5 := Lib.hid (HR5.out w5 hB5)
      have HS5 : Hid (SlAt w5 5 encG a4 c4 p) := HS4.out.after hb5
      have HB5 := Lib.hid hB5
      clear hb5 hB5 HQ4 HR5 HB4 HS4
      go_wp2_with fail
      with_reducible refine HQ5.out.mono ?_
      rintro e w6 ⟨rfl, hb6⟩
      have HS6 : Hid (SlAt w6 5 encG a4 c4 p) := HS5.out.after hb6
      have HB6 := Lib.hid (HB5.out.trans (hb6.mono HB5.out.size))
      clear hb6 HQ5 HS5 HB5
      have hp0 := HN4.out HNz.out
      subst hp0
      clear HP4 HN4 HS6
      go_wp2_with fail
      with_reducible refine (awake_ok _).mono ?_
      rintro e w90 ⟨rfl, hb90⟩
      go_wp2_with fail
      go_ret
      exact ⟨rfl, HB6.out.trans (hb90.mono HB6.out.size)⟩

end Go.Proofs.Ytmjgcenhgpkhiaa
