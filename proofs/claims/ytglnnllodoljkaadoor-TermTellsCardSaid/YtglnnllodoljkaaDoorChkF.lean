/- TermTells. -/
import Derived.Test.YtglnnllodoljkaaDoorChkD
import Derived.Test.YtglnnllodoljkaaDoorChkE
namespace Go.Proofs.YtglnnllodoljkaaDoor
open Go.ChangeShapes Go.WideShapes Go.ChangeAt Go.RowKit
set_option linter.unusedVariables false
set_option linter.unusedSimpArgs false

theorem keys_fix {ns : List Nd} (h : chkV ns = 0) : keysV ns [2] = keysR ns 2 2 64 := by
  have hf := (ofV_ok (ns := ns) (by rw [chk_ok h])).2.2.2.1
  refine keys_same (fun x => by rw [Bool.eq_iff_iff]; simp) fun n hn hc => ?_
  obtain ⟨i, hi, rfl⟩ := List.mem_iff_getElem.1 hn
  have h1 := hf i hi
  rw [show Nd.at ns i = ns[i] by unfold Nd.at; rw [List.getD_eq_getElem?_getD, List.getElem?_eq_getElem hi]; rfl] at h1
  have h2 : ns[i].op = 2 := by simpa using hc
  unfold fieldsV limV fitsV at h1
  rw [h2] at h1
  simp at h1
  omega
theorem keys_cho {ns : List Nd} (h : chkV ns = 0) : keysV ns [16, 17] = keysR ns 16 17 64 := by
  have hf := (ofV_ok (ns := ns) (by rw [chk_ok h])).2.2.2.1
  refine keys_same (fun x => by rw [Bool.eq_iff_iff]; simp) fun n hn hc => ?_
  obtain ⟨i, hi, rfl⟩ := List.mem_iff_getElem.1 hn
  have h1 := hf i hi
  rw [show Nd.at ns i = ns[i] by unfold Nd.at; rw [List.getD_eq_getElem?_getD, List.getElem?_eq_getElem hi]; rfl] at h1
  have h2 : ns[i].op = 16 ∨ ns[i].op = 17 := by simpa using hc
  unfold fieldsV limV fitsV at h1
  rcases h2 with h2 | h2
  · rw [h2] at h1
    simp at h1
    omega
  · rw [h2] at h1
    simp at h1
    omega


set_option maxHeartbeats 4000000 in
set_option maxRecDepth 100000 in
theorem walk_TermTells (W : World) (hS : ShapesAt W) (a : Option Addr) (cap : Nat) (ns : List Nd) (hN : NdsAt W a ns) (hI : NdsIn ns) :
    Calls Tryd.prog 8 #[.slice a ns.length cap] W fun e W' => e = .returned (.bool true) ∧ Below W.heap.size W W' := by
  have HS := Lib.hid hS
  have HN := Lib.hid hN
  have HI := Lib.hid hI
  have HA := Lib.hid (fun w hS => awake_ok w hS)
  clear hS hN hI
  by_cases h100 : 100 < ns.length
  · have h1 : 100 < (ns.length : Int) := by omega
    have HAA := Lib.hid (HA.out W HS.out)
    go_enter Tryd.func8, Tryd.ntmps8
    go_wp2_with fail
    with_reducible refine HAA.out.mono ?_
    rintro e w7 ⟨rfl, hb7⟩
    go_wp2_with fail
    go_ret
    exact ⟨rfl, hb7⟩
  have h1 : (ns.length : Int) ≤ 100 := by omega
  have hl : ns.length ≤ 1000000 := by omega
  have HDP := Lib.hid (depth_ok a cap ns hl HI.out W HS.out HN.out)
  have HHZ := Lib.hid (fun w hS hN => horizon_ok a cap ns hl HI.out w hS hN)
  have HKY := Lib.hid (fun w hS hN => tkeys_ok a cap ns hl HI.out w hS hN)
  have HCH := Lib.hid (fun w hS hN => choices_ok a cap ns hl HI.out w hS hN)
  have HC2 := Lib.hid (fun w hN => ref05chk_ok a cap ns hl HI.out w hN)
  unfold KeysEnd at HKY HCH
  have HDV : Hid (depV ns = if chkV ns = 0 then (deepF ns ns.length 0 : Int) else 0) := rfl
  have HHV : Hid (horR ns = if chkV ns = 0 then horV ns else 0) := rfl
  have HKF := Lib.hid (fun h => keys_fix (ns := ns) h)
  have HKC := Lib.hid (fun h => keys_cho (ns := ns) h)
  have HOV := Lib.hid (fun h => ofV_ok (ns := ns) (show (ofV ns).2 = 0 by rw [chk_ok h]))
  obtain ⟨C, hC⟩ : ∃ C, chkV ns = C := ⟨_, rfl⟩
  simp only [hC] at HDP HHZ HKY HCH HC2 HDV HHV HKF HKC HOV
  obtain ⟨D, hD⟩ : ∃ D, depV ns = D := ⟨_, rfl⟩
  obtain ⟨R, hR⟩ : ∃ D, horR ns = D := ⟨_, rfl⟩
  rw [hD] at HDP HDV
  simp only [hR] at HHZ
  rw [hR] at HHV
  clear h100 hC hD hR
  go_enter Tryd.func8, Tryd.ntmps8
  go_wp2_with fail
  with_reducible refine HDP.out.mono ?_
  rintro e w1 ⟨rfl, hb1⟩
  have B1 : Hid (Below W.heap.size W w1) := hb1
  clear hb1 HDP
  go_wp2_with fail
  with_reducible refine (HHZ.out w1 (HS.out.after B1.out) (HN.out.after B1.out)).mono ?_
  rintro e w2 ⟨rfl, hb2⟩
  have B2 : Hid (Below W.heap.size W w2) := B1.out.trans (hb2.mono B1.out.size)
  clear hb2 HHZ
  go_wp2_with fail
  with_reducible refine (HKY.out w2 (HS.out.after B2.out) (HN.out.after B2.out)).mono ?_
  rintro e w3 ⟨vk, rfl, hk1, hk2, hb3⟩
  have B3 : Hid (Below W.heap.size W w3) := B2.out.trans (hb3.mono B2.out.size)
  have HK1 := Lib.hid hk1
  have HK2 := Lib.hid hk2
  clear hb3 HKY hk1 hk2
  go_wp2_with fail
  with_reducible refine (HCH.out w3 (HS.out.after B3.out) (HN.out.after B3.out)).mono ?_
  rintro e w4 ⟨vc, rfl, hc1, hc2, hb4⟩
  have B4 : Hid (Below W.heap.size W w4) := B3.out.trans (hb4.mono B3.out.size)
  have HC1 := Lib.hid hc1
  have HC3 := Lib.hid hc2
  have HB4 := Lib.hid hb4
  clear hb4 HCH hc1 hc2
  go_wp2_with fail
  with_reducible refine (HC2.out w4 (HN.out.after B4.out)).mono ?_
  rintro e w5 ⟨rfl, hb5⟩
  have B5 : Hid (Below W.heap.size W w5) := B4.out.trans (hb5.mono B4.out.size)
  have HB5 := Lib.hid hb5
  clear hb5 HC2
  by_cases hc : C = 0
  rotate_left
  · obtain rfl := HK2.out hc
    obtain rfl := HC3.out hc
    obtain rfl : D = 0 := by rw [show D = _ from HDV.out, if_neg hc]
    obtain rfl : R = 0 := by rw [show R = _ from HHV.out, if_neg hc]
    have hcb : (C != 0) = true := by simp [hc]
    clear hc
    have HAA := Lib.hid (HA.out w5 (HS.out.after B5.out))
    go_wp2_with fail
    with_reducible refine HAA.out.mono ?_
    rintro e wz ⟨rfl, hbz⟩
    go_wp2_with fail
    go_ret
    exact ⟨rfl, Below.trans B5.out (hbz.mono (Below.size B5.out))⟩
  subst hc
  have hk1 := HK1.out rfl
  have hc1 := HC1.out rfl
  obtain rfl : D = (deepF ns ns.length 0 : Int) := by rw [show D = _ from HDV.out, if_pos rfl]
  obtain rfl : R = horV ns := by rw [show R = _ from HHV.out, if_pos rfl]
  rw [HKF.out rfl] at hk1
  rw [HKC.out rfl] at hc1
  obtain ⟨o1, o2, o3, o4, o5, o6, o7⟩ := HOV.out rfl
  obtain ⟨ka, kcap, rfl, _, _, hka⟩ := ints_own hk1 rfl
  obtain ⟨ca, ccap, rfl, _, _, hca⟩ := ints_own hc1 rfl
  have HKA := Lib.hid ((hka.after HB4.out).after HB5.out)
  have HCA := Lib.hid (hca.after HB5.out)
  have HDD := Lib.hid (fun w hN => refdepth_ok a cap ns hl ns.length 0 ns.length (by omega) hl (by rw [List.drop_zero]; exact o3) w hN)
  simp only [show ((0 : Nat) : Int) = 0 from rfl] at HDD
  have HRK := Lib.hid (fun op other w hN => refkeys_ok a cap ns hl op other w hN)
  unfold RefKeysEnd at HRK
  have HL2 := Lib.hid (keysR_le ns 2 2 64)
  have HL17 := Lib.hid (keysR_le ns 16 17 64)
  have HHS := Lib.hid (fun k h => hor_step (ns := ns) (k := k) h)
  have HTL : Hid (horV (ns.take ns.length) = horV ns) := by show _ = _; rw [List.take_length]
  obtain ⟨k2, hk2⟩ : ∃ l, keysR ns 2 2 64 = l := ⟨_, rfl⟩
  obtain ⟨k17, hk17⟩ : ∃ l, keysR ns 16 17 64 = l := ⟨_, rfl⟩
  rw [hk2] at HKA HL2 ⊢
  rw [hk17] at HCA HL17 ⊢
  have HK2' := Lib.hid hk2
  have HK17' := Lib.hid hk17
  obtain ⟨D, hD⟩ : ∃ D, deepF ns ns.length 0 = D := ⟨_, rfl⟩
  simp only [hD] at HDD
  rw [hD]
  clear hk1 hc1 hka hca o1 o2 o3 o4 o5 o6 o7 HK1 HC1 HK2 HC3 HDV HHV HKF HKC HOV hk2 hk17 hD
  go_wp2_with fail
  go_loop [12, 13] (fun s c => ∃ k : Nat, k ≤ ns.length ∧ c = .int .i64 (k : Int) ∧ s = .int .i64 (horV (ns.take k))) (fun _ c => ns.length - (intOf c).toNat)
  case atStart => exact ⟨0, by omega, rfl, rfl⟩
  case round =>
    obtain ⟨k, hk, rfl, rfl⟩ := hrel
    by_cases hlt : k < ns.length
    · have hlt' : (k : Int) < (ns.length : Int) := by omega
      have hst := Lib.hid (HHS.out k hlt)
      obtain ⟨b, o, rfl, hc⟩ := (HN.out.after B5.out) (by omega)
      have c0 : w5.cell? ⟨b, o + k * 5, none⟩ = some (.int .i64 (Nd.at ns k).op) := hc k hlt 0 _ rfl
      have c1 : w5.cell? ⟨b, o + k * 5 + 1, none⟩ = some (.int .i64 (Nd.at ns k).a) := hc k hlt 1 _ rfl
      have c2 : w5.cell? ⟨b, o + k * 5 + 2, none⟩ = some (.int .i64 (Nd.at ns k).b) := hc k hlt 2 _ rfl
      clear hc
      obtain ⟨⟨op, na, nb, nn, nd⟩, hnn⟩ : ∃ n, Nd.at ns k = n := ⟨_, rfl⟩
      rw [hnn] at c0 c1 c2 hst
      dsimp only at c0 c1 c2
      unfold horS at hst
      dsimp only at hst
      obtain ⟨s, hs⟩ : ∃ s, horV (ns.take k) = s := ⟨_, rfl⟩
      rw [hs] at hst ⊢
      have HLT := Lib.hid hlt
      clear hs hnn hlt
      by_cases h14 : op = 14
      · rw [if_pos h14] at hst
        subst h14
        go_wp2_with fail
        all_goals
          refine ⟨⟨k + 1, by have := HLT.out; omega, by go_num, by first | (rw [hst.out]; congr 1; omega) | rw [hst.out]⟩, by have := HLT.out; simp [intOf]; omega⟩
      · rw [if_neg h14] at hst
        have h14b : (op == 14) = false := by simp [h14]
        by_cases h17 : op = 17
        · rw [if_pos h17] at hst
          subst h17
          go_wp2_with fail
          all_goals
            refine ⟨⟨k + 1, by have := HLT.out; omega, by go_num, by first | (rw [hst.out]; congr 1; omega) | rw [hst.out]⟩, by have := HLT.out; simp [intOf]; omega⟩
        · rw [if_neg h17] at hst
          have h17b : (op == 17) = false := by simp [h17]
          clear h14 h17
          go_wp2_with fail
          all_goals
            refine ⟨⟨k + 1, by have := HLT.out; omega, by go_num, by rw [hst.out]⟩, by have := HLT.out; simp [intOf]; omega⟩
    · obtain rfl : k = ns.length := by omega
      rw [HTL.out]
      obtain ⟨R, hR⟩ : ∃ R, horV ns = R := ⟨_, rfl⟩
      rw [hR]
      clear hR hlt hk
      go_wp2_with fail
      with_reducible refine (HDD.out w5 (HN.out.after B5.out)).mono ?_
      rintro e w6 ⟨rfl, hb6⟩
      have B6 : Hid (Below W.heap.size W w6) := B5.out.trans (hb6.mono B5.out.size)
      have HKA6 := Lib.hid (HKA.out.after hb6)
      have HCA6 := Lib.hid (HCA.out.after hb6)
      clear hb6 HDD
      have HR1 := Lib.hid (HRK.out 2 2 w6 (HN.out.after B6.out))
      go_wp2_with fail
      with_reducible refine HR1.out.mono ?_
      rintro e w7 ⟨v, rfl, hown, hb7⟩
      rw [HK2'.out] at hown
      obtain ⟨ra, rcap, rfl, _, _, hra⟩ := ints_own hown rfl
      have B7 : Hid (Below W.heap.size W w7) := B6.out.trans (hb7.mono B6.out.size)
      have HI7 := Lib.hid (ints_ok ka ra kcap rcap k2 k2 (by have := HL2.out; omega) w7 (HKA6.out.after hb7) hra)
      rw [decide_eq_true rfl] at HI7
      have HCA7 := Lib.hid (HCA6.out.after hb7)
      clear hown hra hb7 HR1
      go_wp2_with fail
      with_reducible refine HI7.out.mono ?_
      rintro e w8 ⟨rfl, hb8⟩
      have B8 : Hid (Below W.heap.size W w8) := B7.out.trans (hb8.mono B7.out.size)
      have HCA8 := Lib.hid (HCA7.out.after hb8)
      clear hb8 HI7
      have HR2 := Lib.hid (HRK.out 16 17 w8 (HN.out.after B8.out))
      go_wp2_with fail
      with_reducible refine HR2.out.mono ?_
      rintro e w9 ⟨v, rfl, hown, hb9⟩
      rw [HK17'.out] at hown
      obtain ⟨ra, rcap, rfl, _, _, hra⟩ := ints_own hown rfl
      have B9 : Hid (Below W.heap.size W w9) := B8.out.trans (hb9.mono B8.out.size)
      have HI9 := Lib.hid (ints_ok ca ra ccap rcap k17 k17 (by have := HL17.out; omega) w9 (HCA8.out.after hb9) hra)
      rw [decide_eq_true rfl] at HI9
      clear hown hra hb9 HR2
      go_wp2_with fail
      with_reducible refine HI9.out.mono ?_
      rintro e w10 ⟨rfl, hb10⟩
      have B10 : Hid (Below W.heap.size W w10) := B9.out.trans (hb10.mono B9.out.size)
      clear hb10 HI9
      have HAA := Lib.hid (HA.out w10 (HS.out.after B10.out))
      go_wp2_with fail
      with_reducible refine HAA.out.mono ?_
      rintro e wz ⟨rfl, hbz⟩
      go_wp2_with fail
      go_ret
      exact ⟨rfl, Below.trans B10.out (hbz.mono (Below.size B10.out))⟩

set_option maxRecDepth 100000 in
theorem open_TermTells {H : Type} (enc : TypeId × Value → H) (base : Nat) (W : World) (hS : ShapesAt W) (v0 : Value) (d0 : DataW H) (p0 : List MemPlace) (h0 : DataW.Trod enc Tryd.prog W 0 (fun _ => true) true 22 v0 d0 p0) (ok0 : Value.okWide Tryd.prog W .any base 22 v0) :
    Calls Tryd.prog 8 #[v0] W fun e W' => e = .returned (.bool true) ∧ Below W.heap.size W W' := by
  obtain ⟨a, cap, ns, rfl, q1, q2, _⟩ := open_nodes h0 ok0
  exact walk_TermTells W hS a cap ns q1 q2

end Go.Proofs.YtglnnllodoljkaaDoor
