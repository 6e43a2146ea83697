/- The statement AdjustCounts: its walk. -/
import Derived.Test.YtmjgcenhgpkhiaaDoorBkH
namespace Go.Proofs.YtmjgcenhgpkhiaaDoor
open Go.RowKit Go.Sort Go.Shelf
set_option linter.unusedVariables false
set_option linter.unusedSimpArgs false
set_option maxRecDepth 100000

theorem flow_eq (p c a p' c' a' : Int) (w : World) : (binOp .eql 58 (.agg #[.int .i64 p, .int .i64 c, .int .i64 a]) (.agg #[.int .i64 p', .int .i64 c', .int .i64 a'])).run Tryd.prog w = .ok (.bool (decide ((⟨p, c, a⟩ : Ln) = ⟨p', c', a'⟩))) w := by
  rw [run_eql_struct, three_eq p c a p' c' a' w _ _ Tryd.underlying58 (by kernel_rfl) rfl]
  rfl
def cntF (b : List Fl) (x : Fl) : Int := ((b.filter fun y => decide (x = y)).length : Int)
def cntO (a b : List Fl) : Int := (a.map fun x => 1 - 2 * cntF b x).sum
theorem cntF_snoc (b : List Fl) (x y : Fl) : cntF (b ++ [y]) x = cntF b x + if x = y then 1 else 0 := by
  unfold cntF
  rw [List.filter_append, List.length_append]
  by_cases h : x = y
  · simp [h]
  · simp [h]
theorem cntO_snoc (a b : List Fl) (x : Fl) : cntO (a ++ [x]) b = cntO a b + (1 - 2 * cntF b x) := by unfold cntO; simp
theorem cntF_le (b : List Fl) (x : Fl) : 0 ≤ cntF b x ∧ cntF b x ≤ b.length := by
  unfold cntF
  have := List.length_filter_le (fun y => decide (x = y)) b
  omega
theorem cntO_le (a b : List Fl) : cntO a b ≤ a.length ∧ -(2 * (b.length : Int) * a.length) ≤ cntO a b := by
  induction a with
  | nil => simp [cntO]
  | cons x a ih =>
    have h := cntF_le b x
    unfold cntO at ih ⊢
    rw [List.map_cons, List.sum_cons, List.length_cons]
    refine ⟨by omega, ?_⟩
    have e : 2 * (b.length : Int) * ((a.length + 1 : Nat) : Int) = 2 * (b.length : Int) * a.length + 2 * b.length := by
      rw [Int.natCast_add, Int.mul_add]
      simp
    rw [e]
    omega
theorem cntF_one {b : List Fl} (h : b.Nodup) (x : Fl) : cntF b x = if x ∈ b then 1 else 0 := by
  induction b with
  | nil => simp [cntF]
  | cons y b ih =>
    have hn := List.nodup_cons.1 h
    have ih := ih hn.2
    unfold cntF at ih ⊢
    by_cases e : x = y
    · subst e
      rw [if_neg hn.1] at ih
      rw [List.filter_cons_of_pos (by simp), List.length_cons, if_pos (List.mem_cons_self ..)]
      omega
    · rw [List.filter_cons_of_neg (by simpa using e), ih]
      simp [e]
theorem cntO_both {b : List Fl} (h : b.Nodup) (a : List Fl) : cntO a b = (a.length : Int) - 2 * (both a b : Int) := by
  induction a with
  | nil => simp [cntO, both]
  | cons x a ih =>
    unfold cntO both at ih ⊢
    rw [List.map_cons, List.sum_cons, ih, cntF_one h, List.length_cons]
    by_cases e : x ∈ b
    · rw [if_pos e, List.filter_cons_of_pos (by simpa using e), List.length_cons]
      omega
    · rw [if_neg e, List.filter_cons_of_neg (by simpa using e)]
      omega
theorem take_next {l : List Fl} {k : Nat} {x : Fl} (h : l[k]? = some x) : l.take (k + 1) = l.take k ++ [x] := by
  obtain ⟨hk, e⟩ := List.getElem?_eq_some_iff.1 h
  rw [List.take_succ_eq_append_getElem hk, e]
theorem wrap_in {z : Int} (h : -9000000 ≤ z ∧ z ≤ 9000000) : IntKind.i64.wrap z = z := by
  unfold IntKind.wrap
  simp [IntKind.signed, IntKind.bits]
  omega


set_option maxHeartbeats 16000000 in
theorem walk_AdjustCounts (W : World) (hR : RulesAt W) (aa : Option Addr) (ca : Nat) (a : List Fl) (ab : Option Addr) (cb : Nat) (b : List Fl) (ha : SlG W 3 encW aa ca a) (hb : SlG W 3 encW ab cb b) :
    Calls Tryd.prog 5 #[.slice aa a.length ca, .slice ab b.length cb] W (TrueEnd16 W) := by
  have HR := Lib.hid hR
  have HA := Lib.hid ha
  have HB := Lib.hid hb
  have HMa := Lib.hid (may_ok16 aa ca a W ha)
  clear hR ha hb
  go_enter Tryd.func5, Tryd.ntmps5
  go_wp2_with fail
  with_reducible refine HMa.out.mono ?_
  rintro e w1 ⟨b1, rfl, hb1, hm1⟩
  have HB1 := Lib.hid hb1
  have HM1 := Lib.hid hm1
  clear hb1 hm1
  cases b1
  · go_wp2_with fail
    with_reducible refine (awake_ok w1).mono ?_
    rintro e wz ⟨rfl, hbz⟩
    go_wp2_with fail
    go_ret
    exact ⟨rfl, HB1.out.trans (hbz.mono HB1.out.size)⟩
  have HMb := Lib.hid (may_ok16 ab cb b w1 (HB.out.after HB1.out))
  go_wp2_with fail
  with_reducible refine HMb.out.mono ?_
  rintro e w2 ⟨b2, rfl, hb2, hm2⟩
  have HB2 := Lib.hid (HB1.out.trans (hb2.mono HB1.out.size))
  have HM2 := Lib.hid hm2
  clear hb2 hm2
  cases b2
  · go_wp2_with fail
    with_reducible refine (awake_ok w2).mono ?_
    rintro e wz ⟨rfl, hbz⟩
    go_wp2_with fail
    go_ret
    exact ⟨rfl, HB2.out.trans (hbz.mono HB2.out.size)⟩
  obtain ⟨la, oa, ma⟩ := HM1.out (by first | rfl | trivial)
  obtain ⟨lb, ob, mb⟩ := HM2.out (by first | rfl | trivial)
  have HBk := Lib.hid (book_n HR.out HB2.out HA.out la oa ma)
  have HOa := Lib.hid oa
  have HOb := Lib.hid ob
  have HMa := Lib.hid ma
  have HMb := Lib.hid mb
  clear oa ma ob mb
  go_wp2_with fail
  with_reducible refine HBk.out.mono ?_
  rintro e w3 ⟨p, pb, s, L, rfl, hN3⟩
  have HN3 := Lib.hid hN3
  have HLe3 := Lib.hid (len_n hN3)
  clear hN3
  go_wp2_with fail
  with_reducible refine HLe3.out.mono ?_
  rintro e w4 ⟨rfl, hw4⟩
  obtain rfl : w3 = w4 := hw4.symm
  have HWa := Lib.hid (HA.out.after HN3.out.st.be)
  have HWb := Lib.hid (HB.out.after HN3.out.st.be)
  go_wp2_with fail
  go_loopw [8, 9] (fun v i wr => ∃ k : Nat, k ≤ a.length ∧ i = .int .i64 (k : Int) ∧ v = .int .i64 (cntO (a.take k) b) ∧ Hid (Below w3.heap.size w3 wr)) (fun _ i _ => a.length - (intOf i).toNat)
  case atStart => exact ⟨0, by omega, rfl, rfl, Below.refl _ _⟩
  case round =>
    obtain ⟨k, hk, rfl, rfl, HQ⟩ := hrel
    by_cases hlt : k < a.length
    · obtain ⟨x, hy⟩ : ∃ x, a[k]'hlt = x := ⟨_, rfl⟩
      have hx : a[k]? = some x := by rw [← hy]; exact List.getElem?_eq_getElem hlt
      have HTk := Lib.hid (take_next hx)
      obtain ⟨b0, o0, rfl, _⟩ := HWa.out.recs (by omega)
      have HCl : Hid (∀ Z, Below w3.heap.size w3 Z → Z.cell? ⟨b0, o0 + k * 3, none⟩ = some (.int .i64 x.d) ∧ Z.cell? ⟨b0, o0 + k * 3 + 1, none⟩ = some (.int .i64 x.c) ∧ Z.cell? ⟨b0, o0 + k * 3 + 2, none⟩ = some (.int .i64 x.a)) := fun Z hZ => by
        have hXr : RecsAt Z (some ⟨b0, o0, none⟩) 3 encW a := RowsAt.after HWa.out.recs hZ
        exact ⟨RecsAt.cell hXr rfl hlt hx (j := 0) rfl, RecsAt.cell hXr rfl hlt hx (j := 1) rfl, RecsAt.cell hXr rfl hlt hx (j := 2) rfl⟩
      obtain ⟨d, c, n⟩ := x
      have i1 : (0 : Int) ≤ (k : Int) := by omega
      have i2 : (k : Int) < (a.length : Int) := by omega
      obtain ⟨CO, hCO⟩ : ∃ z, cntO (a.take k) b = z := ⟨_, rfl⟩
      have hcb : -1000 ≤ CO ∧ CO ≤ 1000 := by
        have h1 := cntO_le (a.take k) b
        rw [hCO, List.length_take] at h1
        have h2 : 2 * (b.length : Int) * ((min k a.length : Nat) : Int) ≤ 2 * 20 * 20 := Int.mul_le_mul (by omega) (by omega) (by omega) (by omega)
        omega
      have HCO := Lib.hid hCO
      rw [hCO]
      have g1 : IntKind.i64.wrap (CO + 1) = CO + 1 := wrap_in (by omega)
      clear hx hy hCO
      go_wp2_with fail
      clear g1
      obtain ⟨w7, hw7⟩ : ∃ w7, w7 = wr := ⟨_, rfl⟩
      subst hw7
      go_loopw [8, 10] (fun v j wi => ∃ m : Nat, m ≤ b.length ∧ j = .int .i64 (m : Int) ∧ v = .int .i64 (CO + 1 - 2 * cntF (b.take m) ⟨d, c, n⟩) ∧ Hid (Below w3.heap.size w3 wi)) (fun _ j _ => b.length - (intOf j).toNat)
      case atStart => exact ⟨0, by omega, rfl, by simp [cntF], HQ.out⟩
      case round =>
        obtain ⟨m, hm, rfl, rfl, HI⟩ := hrel
        by_cases hlt2 : m < b.length
        · obtain ⟨y, hy1⟩ : ∃ x, b[m]'hlt2 = x := ⟨_, rfl⟩
          have hy : b[m]? = some y := by rw [← hy1]; exact List.getElem?_eq_getElem hlt2
          have HN : Hid (cntF (b.take (m + 1)) ⟨d, c, n⟩ = cntF (b.take m) ⟨d, c, n⟩ + if (⟨d, c, n⟩ : Fl) = y then 1 else 0) := by show _ = _; rw [take_next hy, cntF_snoc]
          obtain ⟨b1, o1, rfl, _⟩ := HWb.out.recs (by omega)
          have hXr : RecsAt wr (some ⟨b1, o1, none⟩) 3 encW b := RowsAt.after HWb.out.recs HI.out
          obtain ⟨q0, q1, q2⟩ := HCl.out wr HI.out
          try dsimp only at q0 q1 q2
          obtain ⟨yd, yc, yn⟩ := y
          have s0 : wr.cell? ⟨b1, o1 + m * 3, none⟩ = some (.int .i64 yd) := RecsAt.cell hXr rfl hlt2 hy (j := 0) rfl
          have s1 : wr.cell? ⟨b1, o1 + m * 3 + 1, none⟩ = some (.int .i64 yc) := RecsAt.cell hXr rfl hlt2 hy (j := 1) rfl
          have s2 : wr.cell? ⟨b1, o1 + m * 3 + 2, none⟩ = some (.int .i64 yn) := RecsAt.cell hXr rfl hlt2 hy (j := 2) rfl
          have j1 : (0 : Int) ≤ (m : Int) := by omega
          have j2 : (m : Int) < (b.length : Int) := by omega
          have heq := flow_eq d c n yd yc yn
          have hcf := cntF_le (b.take m) ⟨d, c, n⟩
          rw [List.length_take] at hcf
          obtain ⟨CF, hCF⟩ : ∃ z, cntF (b.take m) ⟨d, c, n⟩ = z := ⟨_, rfl⟩
          rw [hCF] at HN hcf ⊢
          obtain ⟨VV, hVV⟩ : ∃ z, CO + 1 - 2 * CF = z := ⟨_, rfl⟩
          rw [hVV]
          have HVV := Lib.hid hVV
          have g2 : IntKind.i64.wrap (VV - 2) = VV - 2 := wrap_in (by omega)
          by_cases e1 : (⟨d, c, n⟩ : Ln) = ⟨yd, yc, yn⟩
          · rw [decide_eq_true e1] at heq
            have HN2 : Hid (CO + 1 - 2 * cntF (b.take (m + 1)) ⟨d, c, n⟩ = VV - 2) := by
              show _ = _
              rw [HN.out, if_pos (by simp only [Ln.mk.injEq] at e1; rw [e1.1, e1.2.1, e1.2.2]), ← hVV]
              omega
            clear hy hy1 hXr e1 hCF hVV hcf
            go_wp2_with (go_quiet (fail))
            go_roundw
            case rel => exact ⟨m + 1, by omega, by go_num, by rw [HN2.out], HI.out.trans ((below_draws wr _).mono HI.out.size)⟩
            case measure => simp [intOf]; omega
          · rw [decide_eq_false e1] at heq
            have HN2 : Hid (CO + 1 - 2 * cntF (b.take (m + 1)) ⟨d, c, n⟩ = VV) := by
              show _ = _
              rw [HN.out, if_neg (by simp only [Fl.mk.injEq]; simp only [Ln.mk.injEq] at e1; exact e1), ← hVV]
              omega
            clear hy hy1 hXr e1 hCF hVV hcf
            go_wp2_with (go_quiet (fail))
            go_roundw
            case rel => exact ⟨m + 1, by omega, by go_num, by rw [HN2.out], HI.out.trans ((below_draws wr _).mono HI.out.size)⟩
            case measure => simp [intOf]; omega
        · obtain rfl : m = b.length := by omega
          rw [List.take_length]
          have HE : Hid (CO + 1 - 2 * cntF b ⟨d, c, n⟩ = cntO (a.take (k + 1)) b) := by
            show _ = _
            rw [HTk.out, cntO_snoc, HCO.out]
            omega
          rw [HE.out]
          go_wp2_with fail
          go_roundw
          case rel => exact ⟨k + 1, by omega, by go_num, rfl, HI.out⟩
          case measure => simp [intOf]; omega
    · obtain rfl : k = a.length := by omega
      rw [List.take_length]
      have hnb := (ordB_ok HOb.out).2.nodup
      have hna := (ordB_ok HOa.out).2.nodup
      have h1 : both a b ≤ a.length := List.length_filter_le _ _
      have h2 : both a b ≤ b.length := by rw [both_comm hna hnb]; exact List.length_filter_le _ _
      obtain ⟨n8, hn8⟩ : ∃ z : Int, (a.length : Int) - 2 * (both a b : Int) + b.length = z := ⟨_, rfl⟩
      obtain ⟨n5, hn5⟩ : ∃ n5, n5 + 2 * both a b = a.length + a.length + b.length := ⟨a.length + a.length + b.length - 2 * both a b, by omega⟩
      obtain ⟨n6, hn6⟩ : ∃ n6, n6 + 2 * both b a = n5 + b.length + a.length := ⟨n5 + b.length + a.length - 2 * both a b, by rw [both_comm hnb hna]; omega⟩
      have hn6' := hn6
      rw [both_comm hnb hna] at hn6'
      have hco := cntO_both hnb a
      obtain ⟨CO, hCO⟩ : ∃ z, cntO a b = z := ⟨_, rfl⟩
      rw [hCO] at hco ⊢
      have g1 : IntKind.i64.wrap (CO + (b.length : Int)) = n8 := by rw [wrap_in (by omega)]; omega
      have g2 : IntKind.i64.wrap ((a.length : Int) + n8) = (n5 : Int) := by rw [wrap_in (by omega)]; omega
      have g3 : IntKind.i64.wrap (2 * n8) = 2 * n8 := wrap_in (by omega)
      have g4 : IntKind.i64.wrap ((a.length : Int) + 2 * n8) = (n6 : Int) := by rw [wrap_in (by omega)]; omega
      have HNr := Lib.hid (HN3.out.after HQ.out)
      have HTu := Lib.hid (turn_n HR.out HNr.out (by omega) HB.out lb HOb.out HMb.out (show (0 : Int) ≤ 2 by omega) (by omega) n5 hn5)
      have HN6 := Lib.hid hn6
      have l5 : n5 ≤ 60 := by omega
      have l6 : n6 ≤ 100 := by omega
      clear hnb hna h1 h2 hn8 hn5 hn6 hn6' hco hCO
      go_wp2_with fail
      with_reducible refine HTu.out.mono ?_
      rintro e w5 ⟨rfl, L5, hK5⟩
      have HK5 := Lib.hid hK5
      have HLe5 := Lib.hid (len_n hK5)
      clear hK5
      go_wp2_with fail
      with_reducible refine HLe5.out.mono ?_
      rintro e w6 ⟨rfl, hw6⟩
      obtain rfl : w5 = w6 := hw6.symm
      have HTu2 := Lib.hid (turn_n HR.out HK5.out (by omega) HA.out la HOa.out HMa.out (show (0 : Int) ≤ 3 by omega) (by omega) n6 HN6.out)
      go_wp2_with fail
      with_reducible refine HTu2.out.mono ?_
      rintro e w8 ⟨rfl, L8, hK8⟩
      have HK8 := Lib.hid hK8
      have HLe8 := Lib.hid (len_n hK8)
      have HT8 := Lib.hid (tells_n hK8 (by omega) HA.out la)
      clear hK8
      go_wp2_with fail
      with_reducible refine HLe8.out.mono ?_
      rintro e w9 ⟨rfl, hw9⟩
      obtain rfl : w8 = w9 := hw9.symm
      go_wp2_with fail
      with_reducible refine HT8.out.mono ?_
      rintro e w10 ⟨rfl, hb10⟩
      have HB10 := Lib.hid (HK8.out.st.be.trans (hb10.mono HK8.out.st.be.size))
      go_wp2_with fail
      with_reducible refine (awake_ok w10).mono ?_
      rintro e wz ⟨rfl, hbz⟩
      go_wp2_with fail
      go_ret
      exact ⟨rfl, HB10.out.trans (hbz.mono HB10.out.size)⟩

end Go.Proofs.YtmjgcenhgpkhiaaDoor
