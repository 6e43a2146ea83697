/- The law's Same. -/
import Derived.Test.YtfimgdjpnlcckaaFacP
namespace Go.Proofs.Ytfimgdjpnlcckaa
open Go.RowKit
set_option linter.unusedVariables false
set_option linter.unusedSimpArgs false


theorem take_eq {α : Type} {A B : List α} {j : Nat} (h : A.take j = B.take j) {x : α} (ha : A[j]? = some x) (hb : B[j]? = some x) : A.take (j + 1) = B.take (j + 1) := by
  obtain ⟨h1, h2⟩ := List.getElem?_eq_some_iff.1 ha
  obtain ⟨h3, h4⟩ := List.getElem?_eq_some_iff.1 hb
  rw [List.take_succ_eq_append_getElem h1, List.take_succ_eq_append_getElem h3, h, h2, h4]

def SameEnd (w : World) (b : Bool) (e : Ending) (w' : World) : Prop := e = .returned (.bool b) ∧ Below w.heap.size w w'

set_option maxHeartbeats 8000000 in
set_option maxRecDepth 100000 in
theorem same_ok (p ba bc p' ba' bc' : Nat) (A A' : List Fx) (C C' : List Ch) (w : World) (h : FactsAt w p ba bc A C) (h' : FactsAt w p' ba' bc' A' C') (l1 : A.length ≤ 500) (l2 : C.length ≤ 500) (l3 : A'.length ≤ 500) (l4 : C'.length ≤ 500) :
    Calls Try.prog 18 #[.pointer (some ⟨p, 0, none⟩), .pointer (some ⟨p', 0, none⟩)] w (SameEnd w (decide (A = A' ∧ C = C'))) := by
  have H := Lib.hid h
  have H' := Lib.hid h'
  clear h h'
  go_enter Try.func18, Try.ntmps18
  go_wp2_with fail
  with_reducible refine (listX_any _ A _ (seqX_ok p ba bc A C _ H.out (by omega)) l1).mono ?_
  rintro e w1 ⟨a1, c1, rfl, hr1, hb1⟩
  have B1 := Lib.hid hb1
  have R1 := Lib.hid hr1
  clear hb1 hr1
  go_wp2_with fail
  with_reducible refine (listX_any _ A' _ (seqX_ok p' ba' bc' A' C' _ (H'.out.after B1.out) (by omega)) l3).mono ?_
  rintro e w2 ⟨a2, c2, rfl, hr2, hb2⟩
  have B2 := Lib.hid (B1.out.trans (hb2.mono B1.out.size))
  have R12 := Lib.hid (R1.out.after hb2)
  have R2 := Lib.hid hr2
  clear hb2 hr2 R1
  go_wp2_with fail
  with_reducible refine (listH_any _ C _ (seqH_ok p ba bc A C _ (H.out.after B2.out) (by omega)) l2).mono ?_
  rintro e w3 ⟨a3, c3, rfl, hr3, hb3⟩
  have B3 := Lib.hid (B2.out.trans (hb3.mono B2.out.size))
  have R13 := Lib.hid (R12.out.after hb3)
  have R23 := Lib.hid (R2.out.after hb3)
  have R3 := Lib.hid hr3
  clear hb3 hr3 R12 R2
  go_wp2_with fail
  with_reducible refine (listH_any _ C' _ (seqH_ok p' ba' bc' A' C' _ (H'.out.after B3.out) (by omega)) l4).mono ?_
  rintro e w4 ⟨a4, c4, rfl, hr4, hb4⟩
  have HB4 := Lib.hid (B3.out.trans (hb4.mono B3.out.size))
  have HRa1 := Lib.hid (R13.out.after hb4)
  have HRa2 := Lib.hid (R23.out.after hb4)
  have HRa3 := Lib.hid (R3.out.after hb4)
  have HRa4 := Lib.hid hr4
  clear hb4 hr4 R13 R23 R3
  by_cases n1 : A.length = A'.length
  · by_cases n2 : C.length = C'.length
    · have m1 : ((A.length : Int) != (A'.length : Int)) = false := by rw [n1]; simp
      have m2 : ((C.length : Int) != (C'.length : Int)) = false := by rw [n2]; simp
      have N1 := Lib.hid n1
      have N2 := Lib.hid n2
      have g1 : A.length ≤ A'.length := by omega
      have g2 : C.length ≤ C'.length := by omega
      have g3 : A'.length ≤ A.length := by omega
      have g4 : C'.length ≤ C.length := by omega
      clear n1 n2
      go_wp2_with fail
      clear m1 m2
      go_loopw [9] (fun i wr => ∃ j : Nat, j ≤ A.length ∧ i = .int .i64 j ∧ Hid (A.take j = A'.take j) ∧ Hid (Below w4.heap.size w4 wr)) (fun i _ => A.length - (intOf i).toNat)
      case atStart => exact ⟨0, by omega, rfl, rfl, Below.refl _ _⟩
      case round =>
        obtain ⟨j, hj, rfl, HT, HBr⟩ := hrel
        by_cases hlt : j < A.length
        · have hx := List.getElem?_eq_getElem hlt
          have hy := List.getElem?_eq_getElem (l := A') (i := j) (by omega)
          obtain ⟨x, hx'⟩ : ∃ x, A[j] = x := ⟨_, rfl⟩
          obtain ⟨y, hy'⟩ : ∃ y, A'[j] = y := ⟨_, rfl⟩
          rw [hx'] at hx
          rw [hy'] at hy
          have HX := Lib.hid hx
          have HY := Lib.hid hy
          have hR1 : RecsAt wr a1 4 encX A := HRa1.out.after HBr.out
          have hR2 : RecsAt wr a2 4 encX A' := HRa2.out.after HBr.out
          obtain ⟨b1, o1, rfl, _⟩ := hR1 (by omega)
          obtain ⟨b2, o2, rfl, _⟩ := hR2 (by omega)
          clear hx' hy'
          obtain ⟨xk, xd, xn, xm⟩ := x
          obtain ⟨yk, yd, yn, ym⟩ := y
          have q : wr.cell? ⟨b1, o1 + j * 4, none⟩ = some (.int .i64 xk) := RecsAt.cell hR1 rfl hlt hx (j := 0) rfl
          have q0 : wr.cell? ⟨b1, o1 + j * 4 + 1, none⟩ = some (.int .i64 xd) := RecsAt.cell hR1 rfl hlt hx (j := 1) rfl
          have q1 : wr.cell? ⟨b1, o1 + j * 4 + 2, none⟩ = some (.int .i64 xn) := RecsAt.cell hR1 rfl hlt hx (j := 2) rfl
          have q2 : wr.cell? ⟨b1, o1 + j * 4 + 3, none⟩ = some (.int .i64 xm) := RecsAt.cell hR1 rfl hlt hx (j := 3) rfl
          have r : wr.cell? ⟨b2, o2 + j * 4, none⟩ = some (.int .i64 yk) := RecsAt.cell hR2 rfl (by omega) hy (j := 0) rfl
          have r0 : wr.cell? ⟨b2, o2 + j * 4 + 1, none⟩ = some (.int .i64 yd) := RecsAt.cell hR2 rfl (by omega) hy (j := 1) rfl
          have r1 : wr.cell? ⟨b2, o2 + j * 4 + 2, none⟩ = some (.int .i64 yn) := RecsAt.cell hR2 rfl (by omega) hy (j := 2) rfl
          have r2 : wr.cell? ⟨b2, o2 + j * 4 + 3, none⟩ = some (.int .i64 ym) := RecsAt.cell hR2 rfl (by omega) hy (j := 3) rfl
          have hne := fun w => fx_neq xk xd xn xm yk yd yn ym w
          clear hx hy hR1 hR2
          have i1 : (0 : Int) ≤ (j : Int) := by omega
          have i2 : (j : Int) < (A.length : Int) := by omega
          have i3 : (j : Int) < (A'.length : Int) := by omega
          by_cases he : (⟨xk, xd, xn, xm⟩ : Fx) = ⟨yk, yd, yn, ym⟩
          · rw [decide_eq_true he] at hne
            have HE := Lib.hid he
            clear he
            go_wp2_with (go_quiet (fail))
            have HB2 : ∀ n, Hid (Below w4.heap.size w4 (wr.drewN n)) := fun n => HBr.out.trans ((below_draws wr n).mono HBr.out.size)
            go_roundw
            case rel => exact ⟨j + 1, by omega, by go_num, take_eq HT.out HX.out (by rw [HE.out]; exact HY.out), HB2 _⟩
            case measure => simp [intOf]; omega
          · rw [decide_eq_false he] at hne
            have HE := Lib.hid he
            clear he
            go_wp2_with (go_quiet (fail))
            go_ret
            have hD : decide (A = A' ∧ C = C') = false := decide_eq_false fun h => HE.out (by
              have h1 := HX.out
              rw [h.1] at h1
              exact Option.some.inj (h1.symm.trans HY.out))
            rw [hD]
            exact ⟨rfl, HB4.out.trans ((HBr.out.trans ((below_draws wr _).mono HBr.out.size)).mono HB4.out.size)⟩
        · obtain rfl : j = A.length := by omega
          have HE1 : Hid (A = A') := by
            have := HT.out
            rw [List.take_length, List.take_of_length_le (by omega)] at this
            exact this
          have HBo := Lib.hid HBr.out
          clear HT
          obtain ⟨wo, rfl⟩ : ∃ wo : World, wo = wr := ⟨_, rfl⟩
          go_wp2_with fail
          go_loopw [10] (fun i wr => ∃ j : Nat, j ≤ C.length ∧ i = .int .i64 j ∧ Hid (C.take j = C'.take j) ∧ Hid (Below w4.heap.size w4 wr)) (fun i _ => C.length - (intOf i).toNat)
          case atStart => exact ⟨0, by omega, rfl, rfl, HBo.out⟩
          case round =>
            obtain ⟨j, hj, rfl, HT, HBr⟩ := hrel
            by_cases hlt : j < C.length
            · have hx := List.getElem?_eq_getElem hlt
              have hy := List.getElem?_eq_getElem (l := C') (i := j) (by omega)
              obtain ⟨x, hx'⟩ : ∃ x, C[j] = x := ⟨_, rfl⟩
              obtain ⟨y, hy'⟩ : ∃ y, C'[j] = y := ⟨_, rfl⟩
              rw [hx'] at hx
              rw [hy'] at hy
              have HX := Lib.hid hx
              have HY := Lib.hid hy
              have hR1 : RecsAt wr a3 3 encH C := HRa3.out.after HBr.out
              have hR2 : RecsAt wr a4 3 encH C' := HRa4.out.after HBr.out
              obtain ⟨b1, o1, rfl, _⟩ := hR1 (by omega)
              obtain ⟨b2, o2, rfl, _⟩ := hR2 (by omega)
              clear hx' hy'
              obtain ⟨xk, xd, xp⟩ := x
              obtain ⟨yk, yd, yp⟩ := y
              have q : wr.cell? ⟨b1, o1 + j * 3, none⟩ = some (.int .i64 xk) := RecsAt.cell hR1 rfl hlt hx (j := 0) rfl
              have q0 : wr.cell? ⟨b1, o1 + j * 3 + 1, none⟩ = some (.int .i64 xd) := RecsAt.cell hR1 rfl hlt hx (j := 1) rfl
              have q1 : wr.cell? ⟨b1, o1 + j * 3 + 2, none⟩ = some (.int .i64 xp) := RecsAt.cell hR1 rfl hlt hx (j := 2) rfl
              have r : wr.cell? ⟨b2, o2 + j * 3, none⟩ = some (.int .i64 yk) := RecsAt.cell hR2 rfl (by omega) hy (j := 0) rfl
              have r0 : wr.cell? ⟨b2, o2 + j * 3 + 1, none⟩ = some (.int .i64 yd) := RecsAt.cell hR2 rfl (by omega) hy (j := 1) rfl
              have r1 : wr.cell? ⟨b2, o2 + j * 3 + 2, none⟩ = some (.int .i64 yp) := RecsAt.cell hR2 rfl (by omega) hy (j := 2) rfl
              have hne := fun w => ch_neq xk xd xp yk yd yp w
              clear hx hy hR1 hR2
              have i1 : (0 : Int) ≤ (j : Int) := by omega
              have i2 : (j : Int) < (C.length : Int) := by omega
              have i3 : (j : Int) < (C'.length : Int) := by omega
              by_cases he : (⟨xk, xd, xp⟩ : Ch) = ⟨yk, yd, yp⟩
              · rw [decide_eq_true he] at hne
                have HE := Lib.hid he
                clear he
                go_wp2_with (go_quiet (fail))
                have HB2 : ∀ n, Hid (Below w4.heap.size w4 (wr.drewN n)) := fun n => HBr.out.trans ((below_draws wr n).mono HBr.out.size)
                go_roundw
                case rel => exact ⟨j + 1, by omega, by go_num, take_eq HT.out HX.out (by rw [HE.out]; exact HY.out), HB2 _⟩
                case measure => simp [intOf]; omega
              · rw [decide_eq_false he] at hne
                have HE := Lib.hid he
                clear he
                go_wp2_with (go_quiet (fail))
                go_ret
                have hD : decide (A = A' ∧ C = C') = false := decide_eq_false fun h => HE.out (by
                  have h1 := HX.out
                  rw [h.2] at h1
                  exact Option.some.inj (h1.symm.trans HY.out))
                rw [hD]
                exact ⟨rfl, HB4.out.trans ((HBr.out.trans ((below_draws wr _).mono HBr.out.size)).mono HB4.out.size)⟩
            · obtain rfl : j = C.length := by omega
              have HE2 : Hid (C = C') := by
                have := HT.out
                rw [List.take_length, List.take_of_length_le (by omega)] at this
                exact this
              go_wp2_with fail
              go_ret
              rw [show decide (A = A' ∧ C = C') = true from decide_eq_true ⟨HE1.out, HE2.out⟩]
              exact ⟨rfl, HB4.out.trans (HBr.out.mono HB4.out.size)⟩
    · have m1 : ((A.length : Int) != (A'.length : Int)) = false := by rw [n1]; simp
      have m2 : ((C.length : Int) != (C'.length : Int)) = true := by rw [bne_iff_ne]; omega
      have HD : Hid (decide (A = A' ∧ C = C') = false) := decide_eq_false fun h => n2 (by rw [h.2])
      clear n1 n2
      go_wp2_with fail
      go_ret
      rw [HD.out]
      exact ⟨rfl, HB4.out⟩
  · have m1 : ((A.length : Int) != (A'.length : Int)) = true := by rw [bne_iff_ne]; omega
    have HD : Hid (decide (A = A' ∧ C = C') = false) := decide_eq_false fun h => n1 (by rw [h.1])
    clear n1
    go_wp2_with fail
    go_ret
    rw [HD.out]
    exact ⟨rfl, HB4.out⟩

end Go.Proofs.Ytfimgdjpnlcckaa
