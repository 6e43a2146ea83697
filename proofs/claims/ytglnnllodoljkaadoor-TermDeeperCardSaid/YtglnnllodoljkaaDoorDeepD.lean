/- TermDeeper: the walk. -/
import Derived.Test.YtglnnllodoljkaaDoorDeepC
import Derived.Test.YtglnnllodoljkaaDoorJoinE
import Derived.Test.YtglnnllodoljkaaDoorTermZ
namespace Go.Proofs.YtglnnllodoljkaaDoor
open Go.ChangeShapes Go.WideShapes Go.ChangeAt Go.RowKit Go.Shelf
set_option linter.unusedVariables false
set_option linter.unusedSimpArgs false

theorem pts_one {w : World} {B : Nat} {a : Option Addr} {cap : Nat} {ns : List Nd} (h : w.cell? ⟨B, 0, none⟩ = some (.slice a ns.length cap)) (hN : NdsAt w a ns) (ha : a = none → ns.length = 0 ∧ cap = 0) (hc : ns.length ≤ cap) : PtsAt w (some ⟨B, 0, none⟩) [⟨a, cap, ns⟩] :=
  ⟨fun _ => ⟨B, 0, rfl, fun i hi j v hv => by
    obtain rfl : i = 0 := by simp at hi; omega
    have hj : j = 0 := by have := (List.getElem?_eq_some_iff.1 hv).1; simp [ptRow] at this; exact this
    subst hj
    cases hv
    exact h⟩, fun i hi => by
    obtain rfl : i = 0 := by simp at hi; omega
    exact ⟨hN, ha, hc⟩⟩
theorem nds_up {ns : List Nd} {u : Nd} (h : NdsIn ns) (hu : u.In) : NdsIn (u :: ns) := by
  rw [in_iff] at h ⊢
  intro x hx
  rcases List.mem_cons.1 hx with rfl | hx
  · exact hu
  · exact h x hx
theorem dep_bound {ns : List Nd} (h : chkV ns = 0) : 0 ≤ depV ns ∧ depV ns ≤ 12 ∧ depV ns = (deepF ns ns.length 0 : Int) := by
  have h6 := (ofV_ok (ns := ns) (by rw [chk_ok h])).2.2.2.2.2.1
  unfold depV
  rw [if_pos h]
  omega

set_option maxHeartbeats 8000000 in
set_option maxRecDepth 1000000 in
theorem walk_TermDeeper (W : World) (hS : ShapesAt W) (a : Option Addr) (cap : Nat) (ns : List Nd) (hN : NdsAt W a ns) (hI : NdsIn ns) (hna : a = none → ns.length = 0 ∧ cap = 0) (hcap : ns.length ≤ cap) (day : Int) (hday : -9223372036854775808 ≤ day ∧ day ≤ 9223372036854775807) :
    Calls Tryd.prog 9 #[.slice a ns.length cap, .int .i64 day] W fun e W' => e = .returned (.bool true) ∧ Below W.heap.size W W' := by
  have HS := Lib.hid hS
  have HN := Lib.hid hN
  have HI := Lib.hid hI
  have HNA := Lib.hid hna
  have HCAP := Lib.hid hcap
  have HA := Lib.hid (fun w hS => awake_ok w hS)
  have B0 : Hid (Below W.heap.size W W) := Below.refl _ _
  clear hS hN hI hna hcap hday
  by_cases h1 : 63 < ns.length
  · have h1' : 63 < (ns.length : Int) := by omega
    go_enter Tryd.func9, Tryd.ntmps9
    have HAA := Lib.hid (HA.out W (HS.out.after B0.out))
    go_wp2_with fail
    with_reducible refine HAA.out.mono ?_
    rintro e wz ⟨rfl, hbz⟩
    go_wp2_with fail
    go_ret
    exact ⟨rfl, Below.trans B0.out (hbz.mono (Below.size B0.out))⟩
  have h1' : (ns.length : Int) ≤ 63 := by omega
  by_cases h2 : day < 0
  · clear h1
    go_enter Tryd.func9, Tryd.ntmps9
    have HAA := Lib.hid (HA.out W (HS.out.after B0.out))
    go_wp2_with fail
    with_reducible refine HAA.out.mono ?_
    rintro e wz ⟨rfl, hbz⟩
    go_wp2_with fail
    go_ret
    exact ⟨rfl, Below.trans B0.out (hbz.mono (Below.size B0.out))⟩
  have h2' : 0 ≤ day := by omega
  by_cases h3 : 73048 < day
  · clear h1
    go_enter Tryd.func9, Tryd.ntmps9
    have HAA := Lib.hid (HA.out W (HS.out.after B0.out))
    go_wp2_with fail
    with_reducible refine HAA.out.mono ?_
    rintro e wz ⟨rfl, hbz⟩
    go_wp2_with fail
    go_ret
    exact ⟨rfl, Below.trans B0.out (hbz.mono (Below.size B0.out))⟩
  have h3' : day ≤ 73048 := by omega
  have hl : ns.length ≤ 1000000 := by omega
  have hl63 : ns.length ≤ 63 := by omega
  have HD := Lib.hid (depth_ok a cap ns hl HI.out W HS.out HN.out)
  have HDB := Lib.hid (fun h => dep_bound (ns := ns) h)
  have HDZ : Hid (chkV ns ≠ 0 → depV ns = 0) := fun h => if_neg h
  obtain ⟨C, hC⟩ : ∃ C, chkV ns = C := ⟨_, rfl⟩
  obtain ⟨D, hD⟩ : ∃ D, depV ns = D := ⟨_, rfl⟩
  have HCC := Lib.hid hC
  have HDD := Lib.hid hD
  rw [hC, hD] at HD HDB HDZ
  clear hC hD h1 h2 h3
  go_enter Tryd.func9, Tryd.ntmps9
  go_wp2_with fail
  with_reducible refine HD.out.mono ?_
  rintro e w1 ⟨rfl, hb1⟩
  have B1 : Hid (Below W.heap.size W w1) := hb1
  clear hb1 HD
  by_cases hc : C = 0
  rotate_left
  · obtain rfl : D = 0 := HDZ.out hc
    have hcb : (C != 0) = true := by simp [hc]
    have HAA := Lib.hid (HA.out w1 (HS.out.after B1.out))
    go_wp2_with fail
    with_reducible refine HAA.out.mono ?_
    rintro e wz ⟨rfl, hbz⟩
    go_wp2_with fail
    go_ret
    exact ⟨rfl, Below.trans B1.out (hbz.mono (Below.size B1.out))⟩
  subst hc
  have hck : chkV ns = 0 := HCC.out
  obtain ⟨d1, d2, d3⟩ := HDB.out rfl
  have hjw := up_join (u := whenN day) (ns := ns) (a := a) (cap := cap) rfl rfl rfl (when_fields h2' h3') hck hl63
  have hjg := up_join (u := giveN) (ns := ns) (a := a) (cap := cap) rfl rfl rfl give_fields hck hl63
  have HupW := Lib.hid (fun h => up_chk (u := whenN day) (ns := ns) rfl rfl rfl (when_fields h2' h3') hck hl63 h)
  have HupG := Lib.hid (fun h => up_chk (u := giveN) (ns := ns) rfl rfl rfl give_fields hck hl63 h)
  obtain ⟨dn, hdn⟩ : ∃ d, deepF ns ns.length 0 = d := ⟨_, rfl⟩
  rw [hdn] at hjw hjg d3 HupW HupG
  have HWin : Hid ((whenN day).In) := by show _ ∧ _; unfold whenN; dsimp only; omega
  have HGin : Hid (giveN.In) := by show _ ∧ _; unfold giveN; dsimp only; omega
  obtain ⟨er, her⟩ : ∃ er, (if 12 < dn + 1 then (15 : Int) else 0) = er := ⟨_, rfl⟩
  rw [her] at hjw hjg
  have HER := Lib.hid her
  have HD3 := Lib.hid d3
  clear her d3
  have HHW := Lib.hid (hor_when (ns := ns) (day := day) h2')
  have HKW := Lib.hid (keys_when ns day)
  obtain ⟨wa, hwa⟩ : ∃ wa, w1.alloc (.cells #[.slice a ns.length cap] 22) = wa := ⟨_, rfl⟩
  have Bwa := Lib.hid (B1.out.trans ((show Below w1.heap.size w1 wa by rw [← hwa]; exact (Below.refl _ _).alloc (Nat.le_refl _) _).mono B1.out.size))
  have Pwa := Lib.hid (pts_one (B := w1.heap.size) (cap := cap) (show wa.cell? _ = _ by rw [← hwa]; exact (cell_new_l w1 (.slice a ns.length cap) 22).1) (HN.out.after Bwa.out) HNA.out HCAP.out)
  have Jwa := Lib.hid (join_ok (whenN day) HWin.out (some ⟨w1.heap.size, 0, none⟩) 1 [⟨a, cap, ns⟩] (by simp) (by rw [cat_one]; omega) (by rw [cat_one]; exact nds_up HI.out HWin.out) wa (HS.out.after Bwa.out) Pwa.out)
  unfold JoinEnd at Jwa
  rw [hjw, show ([⟨a, cap, ns⟩] : List Pt).length = 1 from rfl] at Jwa
  simp only [cat_one] at Jwa
  have HCK := Lib.hid hck
  have HDN := Lib.hid hdn
  have HJG := Lib.hid hjg
  unfold Nd.val whenN at Jwa
  dsimp only at Jwa
  clear hck hdn hjw hjg HDB HDZ
  go_wp2_with fail
  with_reducible refine Jwa.out.mono ?_
  rintro e w2 ⟨vw, rfl, hw1, hw2, hb2⟩
  have B2 : Hid (Below W.heap.size W w2) := Bwa.out.trans (hb2.mono Bwa.out.size)
  have HW1 := Lib.hid hw1
  have HW2 := Lib.hid hw2
  have hjg := HJG.out
  clear hw1 hw2 hb2 Jwa Pwa hwa
  obtain ⟨wb, hwb⟩ : ∃ wb, w2.alloc (.cells #[.slice a ns.length cap] 22) = wb := ⟨_, rfl⟩
  have Bwb := Lib.hid (B2.out.trans ((show Below w2.heap.size w2 wb by rw [← hwb]; exact (Below.refl _ _).alloc (Nat.le_refl _) _).mono B2.out.size))
  have Pwb := Lib.hid (pts_one (B := w2.heap.size) (cap := cap) (show wb.cell? _ = _ by rw [← hwb]; exact (cell_new_l w2 (.slice a ns.length cap) 22).1) (HN.out.after Bwb.out) HNA.out HCAP.out)
  have Jwb := Lib.hid (join_ok giveN HGin.out (some ⟨w2.heap.size, 0, none⟩) 1 [⟨a, cap, ns⟩] (by simp) (by rw [cat_one]; omega) (by rw [cat_one]; exact nds_up HI.out HGin.out) wb (HS.out.after Bwb.out) Pwb.out)
  unfold JoinEnd at Jwb
  rw [hjg, show ([⟨a, cap, ns⟩] : List Pt).length = 1 from rfl] at Jwb
  simp only [cat_one] at Jwb
  unfold Nd.val giveN at Jwb
  dsimp only at Jwb
  clear hjg
  go_wp2_with fail
  with_reducible refine Jwb.out.mono ?_
  rintro e w3 ⟨vg, rfl, hg1, hg2, hb3⟩
  have B3 : Hid (Below W.heap.size W w3) := Bwb.out.trans (hb3.mono Bwb.out.size)
  have B23 : Hid (Below w2.heap.size w2 w3) := (show Below w2.heap.size w2 wb by rw [← hwb]; exact (Below.refl _ _).alloc (Nat.le_refl _) _).trans (hb3.mono (by rw [← hwb]; simp))
  have HG1 := Lib.hid hg1
  have HG2 := Lib.hid hg2
  clear hg1 hg2 hb3 Jwb Pwb hwb
  by_cases hd12 : dn = 12
  · obtain rfl : er = 15 := by rw [← HER.out, if_pos (by omega)]
    obtain rfl : D = 12 := by rw [HD3.out, hd12]; rfl
    clear d1 d2 hd12
    have HAA := Lib.hid (HA.out w3 (HS.out.after B3.out))
    go_wp2_with fail
    with_reducible refine HAA.out.mono ?_
    rintro e wz ⟨rfl, hbz⟩
    go_wp2_with fail
    go_ret
    exact ⟨rfl, Below.trans B3.out (hbz.mono (Below.size B3.out))⟩
  obtain rfl : er = 0 := by rw [← HER.out, if_neg (by have := HD3.out; omega)]
  have hD12 : (D == 12) = false := by have := HD3.out; simp; omega
  obtain ⟨cw, dw⟩ := HupW.out hd12
  obtain ⟨cg, dg⟩ := HupG.out hd12
  rw [HDD.out] at dw dg
  have hlw : (whenN day :: ns).length ≤ 1000000 := by simp; omega
  have hlg : (giveN :: ns).length ≤ 1000000 := by simp; omega
  have how := HW1.out rfl
  have hog := HG1.out rfl
  obtain ⟨wa', wc', rfl, _, _, _, hwN⟩ := nds_own (ns := whenN day :: ns) how (by simp; omega)
  obtain ⟨ga', gc', rfl, _, _, _, hgN⟩ := nds_own (ns := giveN :: ns) hog (by simp; omega)
  have HWN := Lib.hid (hwN.after B23.out)
  have HGN := Lib.hid hgN
  have HDW := Lib.hid (fun w hS hN => depth_ok wa' wc' (whenN day :: ns) hlw (nds_up HI.out HWin.out) w hS hN)
  have HDG := Lib.hid (fun w hS hN => depth_ok ga' gc' (giveN :: ns) hlg (nds_up HI.out HGin.out) w hS hN)
  have HZT := Lib.hid (fun w hS hN => horizon_ok a cap ns hl HI.out w hS hN)
  have HZW := Lib.hid (fun w hS hN => horizon_ok wa' wc' (whenN day :: ns) hlw (nds_up HI.out HWin.out) w hS hN)
  have HZG := Lib.hid (fun w hS hN => horizon_ok ga' gc' (giveN :: ns) hlg (nds_up HI.out HGin.out) w hS hN)
  have HKT := Lib.hid (fun w hS hN => tkeys_ok a cap ns hl HI.out w hS hN)
  have HKX := Lib.hid (fun w hS hN => tkeys_ok wa' wc' (whenN day :: ns) hlw (nds_up HI.out HWin.out) w hS hN)
  have z0 : horR ns = horV ns := if_pos HCK.out
  have z1 : horR (whenN day :: ns) = max (horV ns) day := by rw [← HHW.out]; exact if_pos cw
  have z2 : horR (giveN :: ns) = horV ns := if_pos cg
  unfold KeysEnd at HKT HKX
  simp only [dw, cw, List.length_cons, Nat.add_comm] at HDW
  simp only [dg, cg, List.length_cons, Nat.add_comm] at HDG
  simp only [z0, HCK.out] at HZT
  simp only [z1, cw, List.length_cons, Nat.add_comm] at HZW
  simp only [z2, cg, List.length_cons, Nat.add_comm] at HZG
  simp only [HCK.out] at HKT
  simp only [HKW.out, cw, List.length_cons, Nat.add_comm] at HKX
  obtain ⟨R, hR⟩ : ∃ R, horV ns = R := ⟨_, rfl⟩
  simp only [hR] at HZT HZW HZG
  have hkl : (keysV ns [2]).length ≤ 63 := by
    have h1 := compact_le (keyS ns [2])
    have h2 := keyL_le ns [2]
    rw [keyS_len] at h1
    exact Nat.le_trans (Nat.le_trans h1 h2) hl63
  have HKLE := Lib.hid hkl
  obtain ⟨kk, hkk⟩ : ∃ l, keysV ns [2] = l := ⟨_, rfl⟩
  simp only [hkk] at HKT HKX
  rw [hkk] at HKLE
  clear how hog hwN hgN z0 z1 z2 cw dw cg dg hR hkl hkk hd12 HW1 HW2 HG1 HG2 HupW HupG HJG HHW HKW HER HD3
  go_wp2_with fail
  with_reducible refine (HDW.out w3 (HS.out.after B3.out) HWN.out).mono ?_
  rintro e w4 ⟨rfl, hb4⟩
  have B4 : Hid (Below W.heap.size W w4) := B3.out.trans (hb4.mono B3.out.size)
  have HWNw4 := Lib.hid (HWN.out.after hb4)
  have HGNw4 := Lib.hid (HGN.out.after hb4)
  clear hb4
  go_wp2_with fail
  with_reducible refine (HDG.out w4 (HS.out.after B4.out) HGNw4.out).mono ?_
  rintro e w5 ⟨rfl, hb5⟩
  have B5 : Hid (Below W.heap.size W w5) := B4.out.trans (hb5.mono B4.out.size)
  have HWNw5 := Lib.hid (HWNw4.out.after hb5)
  have HGNw5 := Lib.hid (HGNw4.out.after hb5)
  clear hb5
  go_wp2_with fail
  with_reducible refine (HZT.out w5 (HS.out.after B5.out) (HN.out.after B5.out)).mono ?_
  rintro e w6 ⟨rfl, hb6⟩
  have B6 : Hid (Below W.heap.size W w6) := B5.out.trans (hb6.mono B5.out.size)
  have HWNw6 := Lib.hid (HWNw5.out.after hb6)
  have HGNw6 := Lib.hid (HGNw5.out.after hb6)
  clear hb6
  go_wp2_with fail
  with_reducible refine (HZW.out w6 (HS.out.after B6.out) HWNw6.out).mono ?_
  rintro e w7 ⟨rfl, hb7⟩
  have B7 : Hid (Below W.heap.size W w7) := B6.out.trans (hb7.mono B6.out.size)
  have HWNw7 := Lib.hid (HWNw6.out.after hb7)
  have HGNw7 := Lib.hid (HGNw6.out.after hb7)
  clear hb7
  go_wp2_with fail
  with_reducible refine (HZG.out w7 (HS.out.after B7.out) HGNw7.out).mono ?_
  rintro e w8 ⟨rfl, hb8⟩
  have B8 : Hid (Below W.heap.size W w8) := B7.out.trans (hb8.mono B7.out.size)
  have HWNw8 := Lib.hid (HWNw7.out.after hb8)
  have HGNw8 := Lib.hid (HGNw7.out.after hb8)
  clear hb8
  go_wp2_with fail
  with_reducible refine (HKT.out w8 (HS.out.after B8.out) (HN.out.after B8.out)).mono ?_
  rintro e w9 ⟨v1, rfl, ho1, _, hb9⟩
  obtain ⟨ka, kcap, rfl, _, _, hka⟩ := ints_own (ho1 trivial) rfl
  have HKA := Lib.hid hka
  clear ho1 hka
  have B9 : Hid (Below W.heap.size W w9) := B8.out.trans (hb9.mono B8.out.size)
  have HWNw9 := Lib.hid (HWNw8.out.after hb9)
  have HGNw9 := Lib.hid (HGNw8.out.after hb9)
  clear hb9
  go_wp2_with fail
  with_reducible refine (HKX.out w9 (HS.out.after B9.out) HWNw9.out).mono ?_
  rintro e w10 ⟨v2, rfl, ho2, _, hb10⟩
  obtain ⟨kb, kcb, rfl, _, _, hkb⟩ := ints_own (ho2 trivial) rfl
  have HI := Lib.hid (ints_ok ka kb kcap kcb kk kk (by have := HKLE.out; omega) w10 (HKA.out.after hb10) hkb)
  rw [decide_eq_true rfl] at HI
  clear ho2 hkb
  have B10 : Hid (Below W.heap.size W w10) := B9.out.trans (hb10.mono B9.out.size)
  clear hb10
  obtain ⟨M, hM⟩ : ∃ M, max R day = M := ⟨_, rfl⟩
  have HM := Lib.hid hM
  rw [hM]
  clear hM
  go_wp2_with fail
  all_goals first
    | (exfalso; have := HM.out; omega)
    | (with_reducible refine HI.out.mono ?_
       rintro e w11 ⟨rfl, hb11⟩
       have B11 : Hid (Below W.heap.size W w11) := B10.out.trans (hb11.mono B10.out.size)
       clear hb11 HI
       have HAA := Lib.hid (HA.out w11 (HS.out.after B11.out))
       go_wp2_with fail
       with_reducible refine HAA.out.mono ?_
       rintro e wz ⟨rfl, hbz⟩
       go_wp2_with fail
       go_ret
       exact ⟨rfl, Below.trans B11.out (hbz.mono (Below.size B11.out))⟩)

set_option maxRecDepth 100000 in
theorem open_TermDeeper {H : Type} (enc : TypeId × Value → H) (base : Nat) (W : World) (hS : ShapesAt W) (v0 : Value) (d0 : DataW H) (p0 : List MemPlace) (h0 : DataW.Trod enc Tryd.prog W 0 (fun _ => true) true 22 v0 d0 p0) (ok0 : Value.okWide Tryd.prog W .any base 22 v0)
    (a1 : Int) (h1 : -9223372036854775808 ≤ a1 ∧ a1 ≤ 9223372036854775807) :
    Calls Tryd.prog 9 #[v0, .int .i64 a1] W fun e W' => e = .returned (.bool true) ∧ Below W.heap.size W W' := by
  obtain ⟨a, cap, ns, rfl, q1, q2, q4, q5, q3, _⟩ := open_nodes h0 ok0
  exact walk_TermDeeper W hS a cap ns q1 q2 q5 q3 a1 h1

end Go.Proofs.YtglnnllodoljkaaDoor
