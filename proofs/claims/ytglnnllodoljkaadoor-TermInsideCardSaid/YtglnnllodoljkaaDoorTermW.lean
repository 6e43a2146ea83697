/- TermInside: the walk. -/
import Derived.Test.YtglnnllodoljkaaDoorTermV
import Derived.Test.YtglnnllodoljkaaDoorHeldIn
namespace Go.Proofs.YtglnnllodoljkaaDoor
open Go.RowKit Go.Shelf
set_option linter.unusedVariables false
set_option linter.unusedSimpArgs false

structure Seen3 (W : World) (a0 a1 a2 : Addr) (v0 v1 v2 : Value) : Prop where
  c0 : W.cell? a0 = some v0
  c1 : W.cell? a1 = some v1
  c2 : W.cell? a2 = some v2
theorem Seen3.after {W W' : World} {a0 a1 a2 : Addr} {v0 v1 v2 : Value} (h : Seen3 W a0 a1 a2 v0 v1 v2) (hb : Below W.heap.size W W') : Seen3 W' a0 a1 a2 v0 v1 v2 := ⟨below_cell hb h.c0, below_cell hb h.c1, below_cell hb h.c2⟩

set_option maxHeartbeats 8000000 in
set_option maxRecDepth 100000 in
theorem walk_TermInside (W : World) (hS : ShapesAt W) (a : Option Addr) (cap : Nat) (ns : List Nd) (hN : NdsAt W a ns) (hI : NdsIn ns) (hcap : ns.length ≤ cap) :
    Calls Tryd.prog 6 #[.slice a ns.length cap] W fun e W' => e = .returned (.bool true) ∧ Below W.heap.size W W' := by
  have HS := Lib.hid hS
  have HN := Lib.hid hN
  have HI := Lib.hid hI
  have HCAP := Lib.hid hcap
  have HA := Lib.hid (fun w hS => awake_ok w hS)
  clear hS hN hI hcap
  by_cases h100 : 100 < ns.length
  · have h1 : 100 < (ns.length : Int) := by omega
    have HAA := Lib.hid (HA.out W HS.out)
    go_enter Tryd.func6, Tryd.ntmps6
    go_wp2_with fail
    with_reducible refine HAA.out.mono ?_
    rintro e w7 ⟨rfl, hb7⟩
    go_wp2_with fail
    go_ret
    exact ⟨rfl, hb7⟩
  have h1 : (ns.length : Int) ≤ 100 := by omega
  have hl : ns.length ≤ 1000000 := by omega
  have HO := Lib.hid (of_term_ok a cap ns hl HI.out W HS.out HN.out)
  obtain ⟨ov, hov⟩ : ∃ ov, ofV ns = ov := ⟨_, rfl⟩
  have HOV := Lib.hid hov
  rw [hov] at HO
  obtain ⟨so, er⟩ := ov
  dsimp only at HO
  clear hov h100
  go_enter Tryd.func6, Tryd.ntmps6
  go_wp2_with fail
  with_reducible refine HO.out.mono ?_
  rintro e w1 ⟨rfl, hb1⟩
  have b1 : Hid (Below W.heap.size W w1) := hb1
  clear hb1 HO
  by_cases her : er = 0
  rotate_left
  · obtain rfl : so = 0 := by
      have := HOV.out
      unfold ofV at this
      split at this
      · cases this; rfl
      split at this
      · cases this; rfl
      split at this
      · cases this; rfl
      split at this
      · cases this; rfl
      split at this
      · cases this; rfl
      cases this
      exact absurd rfl her
    have heb : (er != 0) = true := by simp [her]
    have HAA := Lib.hid (HA.out w1 (HS.out.after b1.out))
    clear her
    go_wp2_with fail
    with_reducible refine HAA.out.mono ?_
    rintro e w7 ⟨rfl, hb7⟩
    go_wp2_with fail
    go_ret
    exact ⟨rfl, b1.out.trans (hb7.mono b1.out.size)⟩
  subst her
  have hok := ofV_ok (show (ofV ns).2 = 0 by rw [HOV.out])
  have hso : Hid (so = shp (Nd.at ns 0).op 0) := by
    have := hok.2.2.2.2.2.2
    rw [HOV.out] at this
    exact this
  have HOK := Lib.hid hok
  clear hok
  go_wp2_with fail
  go_loopw [5] (fun c wr => ∃ k : Nat, k ≤ ns.length ∧ c = .int .i64 (k : Int) ∧ Below W.heap.size W wr) (fun c _ => ns.length - (intOf c).toNat)
  case atStart => exact ⟨0, by omega, by simp, b1.out⟩
  case round =>
    obtain ⟨k, hk, rfl, hbl⟩ := hrel
    have HBL := Lib.hid hbl
    by_cases hlt : k < ns.length
    · have hlt' : (k : Int) < (ns.length : Int) := by omega
      obtain ⟨b, o, rfl, hc0⟩ := HN.out (by omega)
      obtain ⟨q, hq, hqn⟩ := skip_all HOK.out.2.2.1 hlt
      have hq1 := (skip_le _ _ _ hq).1
      obtain ⟨hzz, hpp⟩ := places_ok hlt hq
      have HZ := Lib.hid (size_ok (some ⟨b, o, none⟩) cap ns hl k wr (HS.out.after hbl) (HN.out.after hbl))
      unfold SizeEnd at HZ
      rw [hzz] at HZ
      dsimp only at HZ
      have HQ := Lib.hid hq
      have HLT := Lib.hid hlt
      have HZZ := Lib.hid hzz
      have HPP := Lib.hid hpp
      have hqa : 1 ≤ (q : Int) := by omega
      have hqb : (k : Int) + (q : Int) ≤ (ns.length : Int) := by omega
      have hwq : IntKind.i64.wrap ((k : Int) + (q : Int)) = (k : Int) + (q : Int) := IntWalk.i64_in _ (by omega)
      have hsl := fun w => slice_nodes b o k q ns.length cap hqn HCAP.out (by have := HCAP.out; omega) w
      have hkw : IntKind.i64.wrap ((k : Int) + 1) = (k : Int) + 1 := IntWalk.i64_in _ (by omega)
      clear hq hlt hzz hpp hc0 hbl
      go_wp2_with fail
      with_reducible refine HZ.out.mono ?_
      rintro e w2 ⟨rfl, hb2⟩
      have b2 := Lib.hid (HBL.out.trans (hb2.mono HBL.out.size))
      have hsb := sub_len hqn
      have HO2 := Lib.hid (of_term_ok (some ⟨b, o + k * 5, none⟩) (cap - k) (sub ns k q) (by omega) (sub_in HI.out hqn) w2 (HS.out.after b2.out) (nds_sub (HN.out.after b2.out) hqn))
      rw [hsb, sub_ofV (show (ofV ns).2 = 0 by rw [HOV.out]) HLT.out HQ.out] at HO2
      dsimp only at HO2
      clear HZ hb2 hsb
      go_wp2_with fail
      with_reducible refine HO2.out.mono ?_
      rintro e w3 ⟨rfl, hb3⟩
      have b3 := Lib.hid (b2.out.trans (hb3.mono b2.out.size))
      have HB := Lib.hid (below_ok (some ⟨b, o, none⟩) cap ns hl k w3 (HS.out.after b3.out) (HN.out.after b3.out))
      unfold BelowEnd at HB
      rw [HZZ.out, HPP.out] at HB
      dsimp only at HB
      clear HO2 hb3
      go_wp2_with fail
      with_reducible refine HB.out.mono ?_
      rintro e w4 ⟨v, rfl, hown, hb4⟩
      obtain ⟨M, hM⟩ : ∃ M, mny (Nd.at ns k).op = M := ⟨_, rfl⟩
      rw [hM] at hown
      have hPl : Hid (∀ j, j < M → k < place ns k j ∧ place ns k j < k + q ∧ shp (Nd.at ns (place ns k j)).op 0 = shp (Nd.at ns k).op (j + 2)) := fun j hj => by
        obtain ⟨p1, p2, _⟩ := place_in HLT.out HQ.out (show j < mny (Nd.at ns k).op by omega)
        exact ⟨p1, p2, HOK.out.2.2.2.2.1 k HLT.out j (by omega)⟩
      have hPlen : ((kidsL ns k M).map (·.2)).length = M := by rw [List.length_map, kidsL_len]
      have hPg : Hid (∀ j, j < M → ((kidsL ns k M).map (·.2)).getD j 0 = (place ns k j : Int)) := fun j hj => kidsL_get ns k M j hj
      obtain ⟨ps, hps⟩ : ∃ ps, (kidsL ns k M).map (·.2) = ps := ⟨_, rfl⟩
      rw [hps] at hown hPlen hPg
      obtain ⟨la, lcap, rfl, _, _, hla⟩ := ints_own hown rfl
      rw [hPlen]
      have HPL := Lib.hid hPlen
      have HLA := Lib.hid hla
      have b4 := Lib.hid (b3.out.trans (hb4.mono b3.out.size))
      obtain ⟨b', o', e', hc⟩ := (HN.out.after b4.out) (by have := HLT.out; omega)
      cases e'
      have c0 : w4.cell? ⟨b, o + k * 5, none⟩ = some (.int .i64 (Nd.at ns k).op) := hc k HLT.out 0 _ rfl
      have hkm := Lib.hid (kidsS_len (Nd.at ns k).op)
      have hkg := Lib.hid (kidsS_get (Nd.at ns k).op)
      rw [hM] at hkm hkg
      obtain ⟨op, hop⟩ : ∃ op, (Nd.at ns k).op = op := ⟨_, rfl⟩
      rw [hop] at c0 hPl hkm hkg ⊢
      have HK := Lib.hid (tkids_ok op w4 (HS.out.after b4.out))
      unfold CloneEnd at HK
      have hm4 : M ≤ 4 := by rw [← hM]; exact (mny_int _).2
      clear HB hb4 hown hla hps hM hPlen hc hop
      go_wp2_with fail
      with_reducible refine HK.out.mono ?_
      rintro e w5 ⟨v, rfl, hown, hb5⟩
      obtain ⟨lb, lbcap, rfl, _, _, hlb⟩ := ints_own hown rfl
      rw [hkm.out]
      have HLB := Lib.hid hlb
      have HLA5 := Lib.hid (HLA.out.after hb5)
      have b5 := Lib.hid (b4.out.trans (hb5.mono b4.out.size))
      have c05 := below_cell hb5 c0
      have HSo := Lib.hid (sort_ok op w5 (HS.out.after b5.out))
      clear HK hb5 hown hlb HLA c0
      go_wp2_with fail
      with_reducible refine HSo.out.mono ?_
      rintro e w6 ⟨rfl, hb6⟩
      have HLB6 := Lib.hid (HLB.out.after hb6)
      have HLA6 := Lib.hid (HLA5.out.after hb6)
      have b6 := Lib.hid (b5.out.trans (hb6.mono b5.out.size))
      clear HSo hb6 HLB HLA5 c05
      go_wp2_with fail
      go_loopw [13] (fun c wi => ∃ j : Nat, j ≤ M ∧ c = .int .i64 (j : Int) ∧ Below w6.heap.size w6 wi) (fun c _ => M - (intOf c).toNat)
      case atStart => exact ⟨0, by omega, by simp, Below.refl _ _⟩
      case round =>
        obtain ⟨j, hj, rfl, hbi⟩ := hrel
        have HBI := Lib.hid hbi
        by_cases hlj : j < M
        · have hlj' : (j : Int) < (M : Int) := by omega
          obtain ⟨p1, p2, p3⟩ := hPl.out j hlj
          obtain ⟨bx, ox, rfl, hcx⟩ := (HLA6.out.after hbi) (by rw [HPL.out]; omega)
          obtain ⟨by_, oy, rfl, hcy⟩ := (HLB6.out.after hbi) (by rw [hkm.out]; omega)
          obtain ⟨b', o', e', hc⟩ := (HN.out.after (b6.out.trans (hbi.mono b6.out.size))) (by have := HLT.out; omega)
          cases e'
          have cx : wr.cell? ⟨bx, ox + j, none⟩ = some (.int .i64 (place ns k j : Int)) := by
            have := hcx j (by rw [HPL.out]; exact hlj) 0 _ rfl
            rwa [Nat.mul_one, Nat.add_zero, hPg.out j hlj] at this
          have cy : wr.cell? ⟨by_, oy + j, none⟩ = some (.int .i64 (shp op (j + 2))) := by
            have := hcy j (by rw [hkm.out]; exact hlj) 0 _ rfl
            rwa [Nat.mul_one, Nat.add_zero, hkg.out j hlj] at this
          have cp : wr.cell? ⟨b, o + place ns k j * 5, none⟩ = some (.int .i64 (Nd.at ns (place ns k j)).op) := hc (place ns k j) (by omega) 0 _ rfl
          obtain ⟨p, hp⟩ : ∃ p, place ns k j = p := ⟨_, rfl⟩
          rw [hp] at p1 p2 p3 cx cp
          obtain ⟨op', hop'⟩ : ∃ o, (Nd.at ns p).op = o := ⟨_, rfl⟩
          rw [hop'] at cp p3
          obtain ⟨y, hy⟩ : ∃ y, shp op (j + 2) = y := ⟨_, rfl⟩
          rw [hy] at p3 cy
          have HSo := Lib.hid (sort_ok op' wr.drew (show ShapesAt wr from HS.out.after (b6.out.trans (hbi.mono b6.out.size))))
          rw [p3] at HSo
          have q1 : decide ((p : Int) ≤ (k : Int)) = false := by simp; omega
          have q2 : decide ((k : Int) + (q : Int) ≤ (p : Int)) = false := by simp; omega
          have q1n : decide (p ≤ k) = false := by simp; omega
          have q2n : decide (k + q ≤ p) = false := by simp; omega
          have q3 : ¬ (p : Int) ≤ (k : Int) := by omega
          have q4 : ¬ (k : Int) + (q : Int) ≤ (p : Int) := by omega
          have q5 : (p : Int) < (ns.length : Int) := by omega
          have q6 : (0 : Int) ≤ (p : Int) := by omega
          have hwj : IntKind.i64.wrap ((j : Int) + 1) = (j : Int) + 1 := IntWalk.i64_in _ (by omega)
          have HLJ := Lib.hid hlj
          have SD : Seen3 wr.drew ⟨bx, ox + j, none⟩ ⟨by_, oy + j, none⟩ ⟨b, o + p * 5, none⟩ (.int .i64 (p : Int)) (.int .i64 y) (.int .i64 op') := ⟨cx, cy, cp⟩
          have HSD := Lib.hid SD
          have hzi := hbi.size
          clear hcx hcy hc p1 p2 p3 hp hop' hy hlj hbi SD
          go_wp2_with fail
          refine region_plain (fun w' => Seen3 w' ⟨bx, ox + j, none⟩ ⟨by_, oy + j, none⟩ ⟨b, o + p * 5, none⟩ (.int .i64 (p : Int)) (.int .i64 y) (.int .i64 op')) (by kernel_rfl) ?_
          have SD := HSD.out
          obtain ⟨wd, hwd⟩ : ∃ wd, wr.drew = wd := ⟨_, rfl⟩
          have hbd : Hid (Below wr.heap.size wr wd) := by show Below _ _ _; rw [← hwd]; exact (Below.refl _ _).drew
          rw [hwd] at SD HSo ⊢
          clear hwd HSD
          refine wpAnyH_takes (i := 0) (v := ?_) rfl (by kernel_rfl) (fun _ _ _ h => h) (by rfl) SD ?_ ?_
          rotate_left 1
          · intro w hSw
            obtain ⟨s1, s2, s3⟩ := hSw
            go_simp
            try with_reducible rfl
          try simp only [Act.put, List.setIfInBounds_toArray, List.set_cons_zero, List.set_cons_succ]
          refine wpAnyH_takes (i := 1) (v := ?_) rfl (by kernel_rfl) (fun _ _ _ h => h) (by rfl) SD ?_ ?_
          rotate_left 1
          · intro w hSw
            obtain ⟨s1, s2, s3⟩ := hSw
            go_simp
            try with_reducible rfl
          try simp only [Act.put, List.setIfInBounds_toArray, List.set_cons_zero, List.set_cons_succ]
          refine wpAnyH_takes (i := 2) (v := ?_) rfl (by kernel_rfl) (fun _ _ _ h => h) (by rfl) SD ?_ ?_
          rotate_left 1
          · intro w hSw
            obtain ⟨s1, s2, s3⟩ := hSw
            go_simp
            try with_reducible rfl
          try simp only [Act.put, List.setIfInBounds_toArray, List.set_cons_zero, List.set_cons_succ]
          refine wpAnyH_takes (i := 3) (v := ?_) rfl (by kernel_rfl) (fun _ _ _ h => h) (by rfl) SD ?_ ?_
          rotate_left 1
          · intro w hSw
            obtain ⟨s1, s2, s3⟩ := hSw
            go_simp
            try with_reducible rfl
          try simp only [Act.put, List.setIfInBounds_toArray, List.set_cons_zero, List.set_cons_succ]
          refine wpAnyH_takes (i := 4) (v := ?_) rfl (by kernel_rfl) (fun _ _ _ h => h) (by rfl) SD ?_ ?_
          rotate_left 1
          · intro w hSw
            obtain ⟨s1, s2, s3⟩ := hSw
            go_simp
            try with_reducible rfl
          try simp only [Act.put, List.setIfInBounds_toArray, List.set_cons_zero, List.set_cons_succ]
          refine wpAnyH_takes (i := 5) (v := ?_) rfl (by kernel_rfl) (fun _ _ _ h => h) (by rfl) SD ?_ ?_
          rotate_left 1
          · intro w hSw
            obtain ⟨s1, s2, s3⟩ := hSw
            go_simp
            try with_reducible rfl
          try simp only [Act.put, List.setIfInBounds_toArray, List.set_cons_zero, List.set_cons_succ]
          refine wpAnyH_takes (i := 6) (v := ?_) rfl (by kernel_rfl) (fun _ _ _ h => h) (by rfl) SD ?_ ?_
          rotate_left 1
          · intro w hSw
            obtain ⟨s1, s2, s3⟩ := hSw
            go_simp
            try with_reducible rfl
          try simp only [Act.put, List.setIfInBounds_toArray, List.set_cons_zero, List.set_cons_succ]
          refine wpAnyH_takes (i := 7) (v := ?_) rfl (by kernel_rfl) (fun _ _ _ h => h) (by rfl) SD ?_ ?_
          rotate_left 1
          · intro w hSw
            obtain ⟨s1, s2, s3⟩ := hSw
            go_simp
            try with_reducible rfl
          try simp only [Act.put, List.setIfInBounds_toArray, List.set_cons_zero, List.set_cons_succ]
          refine wpAnyH_takes (i := 8) (v := ?_) rfl (by kernel_rfl) (fun _ _ _ h => h) (by rfl) SD ?_ ?_
          rotate_left 1
          · intro w hSw
            obtain ⟨s1, s2, s3⟩ := hSw
            go_simp
            try with_reducible rfl
          try simp only [Act.put, List.setIfInBounds_toArray, List.set_cons_zero, List.set_cons_succ]
          refine wpAnyH_takes (i := 9) (v := ?_) rfl (by kernel_rfl) (fun _ _ _ h => h) (by rfl) SD ?_ ?_
          rotate_left 1
          · intro w hSw
            obtain ⟨s1, s2, s3⟩ := hSw
            go_simp
            try with_reducible rfl
          try simp only [Act.put, List.setIfInBounds_toArray, List.set_cons_zero, List.set_cons_succ]
          refine wpAnyH_takes (i := 10) (v := ?_) rfl (by kernel_rfl) (fun _ _ _ h => h) (by rfl) SD ?_ ?_
          rotate_left 1
          · intro w hSw
            obtain ⟨s1, s2, s3⟩ := hSw
            go_simp
            try with_reducible rfl
          try simp only [Act.put, List.setIfInBounds_toArray, List.set_cons_zero, List.set_cons_succ]
          refine wpAnyH_takes (i := 11) (v := ?_) rfl (by kernel_rfl) (fun _ _ _ h => h) (by rfl) SD ?_ ?_
          rotate_left 1
          · intro w hSw
            obtain ⟨s1, s2, s3⟩ := hSw
            go_simp
            try with_reducible rfl
          try simp only [Act.put, List.setIfInBounds_toArray, List.set_cons_zero, List.set_cons_succ]
          refine wpAnyH_takes (i := 12) (v := ?_) rfl (by kernel_rfl) (fun _ _ _ h => h) (by rfl) SD ?_ ?_
          rotate_left 1
          · intro w hSw
            obtain ⟨s1, s2, s3⟩ := hSw
            go_simp
            try with_reducible rfl
          try simp only [Act.put, List.setIfInBounds_toArray, List.set_cons_zero, List.set_cons_succ]
          refine wpAnyH_takes (i := 13) (v := ?_) rfl (by kernel_rfl) (fun _ _ _ h => h) (by rfl) SD ?_ ?_
          rotate_left 1
          · intro w hSw
            obtain ⟨s1, s2, s3⟩ := hSw
            go_simp
            try with_reducible rfl
          try simp only [Act.put, List.setIfInBounds_toArray, List.set_cons_zero, List.set_cons_succ]
          refine wpAnyH_takes (i := 14) (v := ?_) rfl (by kernel_rfl) (fun _ _ _ h => h) (by rfl) SD ?_ ?_
          rotate_left 1
          · intro w hSw
            obtain ⟨s1, s2, s3⟩ := hSw
            go_simp
            try with_reducible rfl
          try simp only [Act.put, List.setIfInBounds_toArray, List.set_cons_zero, List.set_cons_succ]
          refine wpAnyH_takes (i := 15) (v := ?_) rfl (by kernel_rfl) (fun _ _ _ h => h) (by rfl) SD ?_ ?_
          rotate_left 1
          · intro w hSw
            obtain ⟨s1, s2, s3⟩ := hSw
            go_simp
            try with_reducible rfl
          try simp only [Act.put, List.setIfInBounds_toArray, List.set_cons_zero, List.set_cons_succ]
          refine wpAnyH_takes (i := 16) (v := ?_) rfl (by kernel_rfl) (fun _ _ _ h => h) (by rfl) SD ?_ ?_
          rotate_left 1
          · intro w hSw
            obtain ⟨s1, s2, s3⟩ := hSw
            go_simp
            try with_reducible rfl
          try simp only [Act.put, List.setIfInBounds_toArray, List.set_cons_zero, List.set_cons_succ]
          refine wpAnyH_takes (i := 17) (v := ?_) rfl (by kernel_rfl) (fun _ _ _ h => h) (by rfl) SD ?_ ?_
          rotate_left 1
          · intro w hSw
            obtain ⟨s1, s2, s3⟩ := hSw
            go_simp
            try with_reducible rfl
          try simp only [Act.put, List.setIfInBounds_toArray, List.set_cons_zero, List.set_cons_succ]
          refine wpAnyH_takes (i := 18) (v := ?_) rfl (by kernel_rfl) (fun _ _ _ h => h) (by rfl) SD ?_ ?_
          rotate_left 1
          · intro w hSw
            obtain ⟨s1, s2, s3⟩ := hSw
            go_simp
            try with_reducible rfl
          try simp only [Act.put, List.setIfInBounds_toArray, List.set_cons_zero, List.set_cons_succ]
          refine wpAnyH_takes (i := 19) (v := ?_) rfl (by kernel_rfl) (fun _ _ _ h => h) (by rfl) SD ?_ ?_
          rotate_left 1
          · intro w hSw
            obtain ⟨s1, s2, s3⟩ := hSw
            go_simp
            try with_reducible rfl
          try simp only [Act.put, List.setIfInBounds_toArray, List.set_cons_zero, List.set_cons_succ]
          refine wpAnyH_takes (i := 20) (v := ?_) rfl (by kernel_rfl) (fun _ _ _ h => h) (by rfl) SD ?_ ?_
          rotate_left 1
          · intro w hSw
            obtain ⟨s1, s2, s3⟩ := hSw
            go_simp
            try with_reducible rfl
          try simp only [Act.put, List.setIfInBounds_toArray, List.set_cons_zero, List.set_cons_succ]
          refine wpAnyH_takes (i := 21) (v := ?_) rfl (by kernel_rfl) (fun _ _ _ h => h) (by rfl) SD ?_ ?_
          rotate_left 1
          · intro w hSw
            obtain ⟨s1, s2, s3⟩ := hSw
            go_simp
            try with_reducible rfl
          try simp only [Act.put, List.setIfInBounds_toArray, List.set_cons_zero, List.set_cons_succ]
          refine wpAnyH_takes (i := 22) (v := ?_) rfl (by kernel_rfl) (fun _ _ _ h => h) (by rfl) SD ?_ ?_
          rotate_left 1
          · intro w hSw
            obtain ⟨s1, s2, s3⟩ := hSw
            go_simp
            try with_reducible rfl
          try simp only [Act.put, List.setIfInBounds_toArray, List.set_cons_zero, List.set_cons_succ]
          refine wpAnyH_takes (i := 23) (v := ?_) rfl (by kernel_rfl) (fun _ _ _ h => h) (by rfl) SD ?_ ?_
          rotate_left 1
          · intro w hSw
            obtain ⟨s1, s2, s3⟩ := hSw
            go_simp
            try with_reducible rfl
          try simp only [Act.put, List.setIfInBounds_toArray, List.set_cons_zero, List.set_cons_succ]
          refine wpAnyH_takes (i := 24) (v := ?_) rfl (by kernel_rfl) (fun _ _ _ h => h) (by rfl) SD ?_ ?_
          rotate_left 1
          · intro w hSw
            obtain ⟨s1, s2, s3⟩ := hSw
            go_simp
            try with_reducible rfl
          try simp only [Act.put, List.setIfInBounds_toArray, List.set_cons_zero, List.set_cons_succ]
          refine wpAnyH_takes (i := 26) (v := ?_) rfl (by kernel_rfl) (fun _ _ _ h => h) (by rfl) SD ?_ ?_
          rotate_left 1
          · intro w hSw
            obtain ⟨s1, s2, s3⟩ := hSw
            go_simp
            try with_reducible rfl
          try simp only [Act.put, List.setIfInBounds_toArray, List.set_cons_zero, List.set_cons_succ]
          refine wpAnyH_takes (i := 27) (v := ?_) rfl (by kernel_rfl) (fun _ _ _ h => h) (by rfl) SD ?_ ?_
          rotate_left 1
          · intro w hSw
            obtain ⟨s1, s2, s3⟩ := hSw
            go_simp
            try with_reducible rfl
          try simp only [Act.put, List.setIfInBounds_toArray, List.set_cons_zero, List.set_cons_succ]
          refine wpAnyH_takes (i := 28) (v := ?_) rfl (by kernel_rfl) (fun _ _ _ h => h) (by rfl) SD ?_ ?_
          rotate_left 1
          · intro w hSw
            obtain ⟨s1, s2, s3⟩ := hSw
            go_simp
            try with_reducible rfl
          try simp only [Act.put, List.setIfInBounds_toArray, List.set_cons_zero, List.set_cons_succ]
          refine wpAnyH_takes (i := 29) (v := ?_) rfl (by kernel_rfl) (fun _ _ _ h => h) (by rfl) SD ?_ ?_
          rotate_left 1
          · intro w hSw
            obtain ⟨s1, s2, s3⟩ := hSw
            go_simp
            try with_reducible rfl
          try simp only [Act.put, List.setIfInBounds_toArray, List.set_cons_zero, List.set_cons_succ]
          refine wpAnyH_nexts (i := 25) rfl (by kernel_rfl) ?_
          intro K hK
          go_simp
          with_reducible refine HSo.out.mono ?_
          rintro e w7 ⟨rfl, hb7⟩
          have SD7 := SD.after hb7
          refine hK.out _ _ SD7 ?_
          clear hK K
          try simp only [Act.put, List.setIfInBounds_toArray, List.set_cons_zero, List.set_cons_succ]
          refine wpAnyH_takes (i := 30) (v := ?_) rfl (by kernel_rfl) (fun _ _ _ h => h) (by rfl) SD7 ?_ ?_
          rotate_left 1
          · intro w hSw
            obtain ⟨s1, s2, s3⟩ := hSw
            go_simp
            try with_reducible rfl
          try simp only [Act.put, List.setIfInBounds_toArray, List.set_cons_zero, List.set_cons_succ]
          refine wpAnyH_takes (i := 31) (v := ?_) rfl (by kernel_rfl) (fun _ _ _ h => h) (by rfl) SD7 ?_ ?_
          rotate_left 1
          · intro w hSw
            obtain ⟨s1, s2, s3⟩ := hSw
            go_simp
            try with_reducible rfl
          try simp only [Act.put, List.setIfInBounds_toArray, List.set_cons_zero, List.set_cons_succ]
          refine wpAnyH_done (by kernel_rfl) ?_ _
          have z7 := hb7.size
          go_wp2_with fail
          go_roundw
          case rel => exact ⟨j + 1, by have := HLJ.out; omega, by go_num, HBI.out.trans ((hbd.out.mono hzi).trans (hb7.mono (Nat.le_trans hzi hbd.out.size)))⟩
          case measure => have := HLJ.out; simp [intOf]; omega
        · obtain rfl : j = M := by omega
          go_wp2_with fail
          have HBF := Lib.hid (b6.out.trans (hbi.mono b6.out.size))
          have := HLT.out
          exact ⟨⟨k + 1, by omega, by go_num, HBF.out⟩, by simp [intOf]; omega⟩
    · obtain rfl : k = ns.length := by omega
      have h0 := HOK.out.2.1
      obtain ⟨b, o, rfl, hc⟩ := (HN.out.after hbl) h0
      have c0 : wr.cell? ⟨b, o, none⟩ = some (.int .i64 (Nd.at ns 0).op) := by
        have := hc 0 h0 0 _ rfl
        rwa [Nat.zero_mul, Nat.add_zero] at this
      obtain ⟨op, hop⟩ : ∃ op, (Nd.at ns 0).op = op := ⟨_, rfl⟩
      rw [hop] at c0 hso
      have HSo := Lib.hid (sort_ok op wr (HS.out.after hbl))
      rw [← hso.out] at HSo
      have hl0 : (0 : Int) < (ns.length : Int) := by omega
      clear hc hop hbl hso
      go_wp2_with fail
      with_reducible refine HSo.out.mono ?_
      rintro e w7 ⟨rfl, hb7⟩
      have b7 := Lib.hid (HBL.out.trans (hb7.mono HBL.out.size))
      have HAA := Lib.hid (HA.out w7 (HS.out.after b7.out))
      go_wp2_with fail
      with_reducible refine HAA.out.mono ?_
      rintro e w8 ⟨rfl, hb8⟩
      go_wp2_with fail
      go_ret
      exact ⟨rfl, b7.out.trans (hb8.mono b7.out.size)⟩

end Go.Proofs.YtglnnllodoljkaaDoor
