/- TermJoins: the walk. -/
import Derived.Test.YtglnnllodoljkaaDoorJoinD
import Derived.Test.YtglnnllodoljkaaDoorTermS
namespace Go.Proofs.YtglnnllodoljkaaDoor
open Go.RowKit Go.Shelf
set_option linter.unusedVariables false
set_option linter.unusedSimpArgs false

theorem cat_bound (ps : List Pt) (c : Nat) : ∀ k, k ≤ ps.length → (∀ j, j < k → (Pt.at ps j).ns.length ≤ c) → (catN (ps.take k)).length ≤ c * k
  | 0, _, _ => by simp [catN]
  | k + 1, hk, h => by
    have := cat_bound ps c k (by omega) (fun j hj => h j (by omega))
    rw [catN_succ ps k (by omega), List.length_append, Nat.mul_add]
    have := h k (by omega)
    omega
theorem in_iff (ns : List Nd) : NdsIn ns ↔ ∀ x ∈ ns, x.In := by
  constructor
  · intro h x hx
    obtain ⟨i, hi, rfl⟩ := List.getElem_of_mem hx
    have := h i hi
    rwa [Nd.at, List.getD_eq_getElem?_getD, List.getElem?_eq_getElem hi] at this
  · intro h i hi
    rw [Nd.at, List.getD_eq_getElem?_getD, List.getElem?_eq_getElem hi]
    exact h _ (List.getElem_mem hi)
theorem cat_in {n : Nd} {ps : List Pt} (hn : n.In) (h : ∀ i, i < ps.length → NdsIn (Pt.at ps i).ns) : NdsIn (n :: catN ps) := by
  rw [in_iff]
  intro x hx
  rcases List.mem_cons.1 hx with rfl | hx
  · exact hn
  · unfold catN at hx
    simp only [List.mem_flatten, List.mem_map] at hx
    obtain ⟨l, ⟨p, hp, rfl⟩, hx⟩ := hx
    obtain ⟨i, hi, rfl⟩ := List.getElem_of_mem hp
    have := h i hi
    rw [Pt.at, List.getD_eq_getElem?_getD, List.getElem?_eq_getElem hi] at this
    exact (in_iff _).1 this x hx

set_option maxHeartbeats 8000000 in
set_option maxRecDepth 100000 in
theorem walk_TermJoins (W : World) (hS : ShapesAt W) (n : Nd) (hn : n.In) (a : Option Addr) (cap : Nat) (ps : List Pt) (hP : PtsAt W a ps) (hI : ∀ i, i < ps.length → NdsIn (Pt.at ps i).ns) :
    Calls Tryd.prog 7 #[n.val, .slice a ps.length cap] W fun e W' => e = .returned (.bool true) ∧ Below W.heap.size W W' := by
  have HP := Lib.hid hP
  have HS := Lib.hid hS
  have HI := Lib.hid (cat_in hn hI)
  have HN := Lib.hid hn
  have HA := Lib.hid (fun w hS => awake_ok w hS)
  clear hP hS hI hn
  unfold Nd.val
  obtain ⟨wa, hwa⟩ : ∃ wa, W.alloc (.cells #[.int .i64 n.op, .int .i64 n.a, .int .i64 n.b, .int .i64 n.num, .int .i64 n.den] 47) = wa := ⟨_, rfl⟩
  have ba : Hid (Below W.heap.size W wa) := by show Below _ _ _; rw [← hwa]; exact (Below.refl _ _).alloc (Nat.le_refl _) _
  have k0 : Blk wa W.heap.size #[.int .i64 n.op, .int .i64 n.a, .int .i64 n.b, .int .i64 n.num, .int .i64 n.den] 47 := by rw [← hwa]; exact Blk.new _ _ _
  have hs5 : Seen5 wa W.heap.size n := ⟨k0.cell 0 rfl, k0.cell 1 rfl, k0.cell 2 rfl, k0.cell 3 rfl, k0.cell 4 rfl⟩
  have za : Hid (wa.heap.size = W.heap.size + 1) := by show _ = _; rw [← hwa]; simp
  obtain ⟨e0, e1, e2, e3, e4⟩ := hs5
  have HS5 : Hid (Seen5 wa W.heap.size n) := ⟨e0, e1, e2, e3, e4⟩
  clear k0
  by_cases h6 : 6 < ps.length
  · have h6' : 6 < (ps.length : Int) := by omega
    have HAA := Lib.hid (HA.out wa (HS.out.after ba.out))
    go_enter Tryd.func7, Tryd.ntmps7
    go_wp2_with fail
    with_reducible refine HAA.out.mono ?_
    rintro e w7 ⟨rfl, hb7⟩
    go_wp2_with fail
    go_ret
    exact ⟨rfl, ba.out.trans (hb7.mono ba.out.size)⟩
  have h6' : (ps.length : Int) ≤ 6 := by omega
  obtain ⟨wl, hwl⟩ : ∃ wl, wa.alloc (.cells #[.int .i64 n.op, .int .i64 n.a, .int .i64 n.b, .int .i64 n.num, .int .i64 n.den] 47) = wl := ⟨_, rfl⟩
  have bl : Hid (Below wa.heap.size wa wl) := by show Below _ _ _; rw [← hwl]; exact (Below.refl _ _).alloc (Nat.le_refl _) _
  have ol : Hid (NdsAt wl (some ⟨wa.heap.size, 0, none⟩) [n]) := by
    refine nds_blk (by rw [← hwl]; exact Blk.new _ _ _) fun i hi => ?_
    obtain rfl : i = 0 := by simp at hi; omega
    exact five rfl rfl rfl rfl rfl
  clear h6
  go_enter Tryd.func7, Tryd.ntmps7
  go_wp2_with (at_builtin; refine wpList_plain rfl fun K hK => wp_append_nodes (.tmp 24) (.tmp 26) rfl wa.heap.size 0 [] rfl (World.ownsRow_nil _ _ _ _) (some ⟨wa.heap.size, 0, none⟩) 1 1 [n] rfl ol.out rfl (fun h => by cases h) bl.out.size (by omega) (fun v1 w1 hown1 hb1 => hK _ _ ?_))
  have HO1 : Hid (w1.ownsRow wa.heap.size 47 5 v1 1 (ndCells [n])) := hown1
  have HB1 : Hid (Below wa.heap.size wa w1) := bl.out.trans hb1
  clear hown1 hb1 ol bl hwl hwa e0 e1 e2 e3 e4
  go_loopw [5, 6] (fun v c wr => ∃ k : Nat, k ≤ ps.length ∧ c = .int .i64 (k : Int) ∧ Hid (wr.ownsRow wa.heap.size 47 5 v (1 + (catN (ps.take k)).length) (ndCells (n :: catN (ps.take k)))) ∧ Hid (∀ j, j < k → (Pt.at ps j).ns.length ≤ 70) ∧ Hid (Below wa.heap.size wa wr)) (fun _ c _ => ps.length - (intOf c).toNat)
  case atStart => exact ⟨0, by omega, by simp, (show w1.ownsRow _ _ _ _ _ _ by simpa [catN] using HO1.out), (fun j hj => by omega), HB1⟩
  case round =>
    obtain ⟨k, hk, rfl, HO, HK, HBL⟩ := hrel
    have hbw := Lib.hid (ba.out.trans (HBL.out.mono ba.out.size))
    by_cases hlt : k < ps.length
    · have hlt' : (k : Int) < (ps.length : Int) := by omega
      obtain ⟨b, o, rfl, hcc⟩ := (HP.out.after hbw.out).1 (by omega)
      have c0 : wr.cell? ⟨b, o + k, none⟩ = some (.slice (Pt.at ps k).a (Pt.at ps k).ns.length (Pt.at ps k).cap) := by
        have := hcc k hlt 0 _ rfl
        rwa [Nat.mul_one, Nat.add_zero] at this
      have hs := Lib.hid (catN_succ ps k hlt)
      have hcb := Lib.hid (cat_bound ps 70 k hk HK.out)
      obtain ⟨q1, q2, q3⟩ := (HP.out.after hbw.out).2 k hlt
      have hpk : Hid (∀ j, j < k + 1 → (Pt.at ps j).ns.length ≤ 70 ∨ j = k) := fun j hj => by
        rcases Nat.lt_or_ge j k with h | h
        · exact Or.inl (HK.out j h)
        · exact Or.inr (by omega)
      obtain ⟨⟨pa, pc, pn⟩, hpp⟩ : ∃ p, Pt.at ps k = p := ⟨_, rfl⟩
      have HPP := Lib.hid hpp
      rw [hpp] at c0 hs q1 q2 q3
      dsimp only at c0 hs q1 q2 q3
      obtain ⟨x, hx⟩ : ∃ x, pn.length = x := ⟨_, rfl⟩
      have HX := Lib.hid hx
      rw [hx] at c0
      have HLT := Lib.hid hlt
      have HQ1 := Lib.hid q1
      have HQ2 := Lib.hid q2
      have hwk : IntKind.i64.wrap ((k : Int) + 1) = (k : Int) + 1 := IntWalk.i64_in _ (by omega)
      clear hcc hpp hx hlt q1 q2 q3
      by_cases h70 : 70 < x
      · have h70' : 70 < (x : Int) := by omega
        have HAA := Lib.hid (HA.out wr (HS.out.after hbw.out))
        go_wp2_with fail
        with_reducible refine HAA.out.mono ?_
        rintro e w7 ⟨rfl, hb7⟩
        go_wp2_with fail
        go_ret
        exact ⟨rfl, hbw.out.trans (hb7.mono hbw.out.size)⟩
      · have h70' : (x : Int) ≤ 70 := by omega
        have HX70 : Hid (x ≤ 70) := by show x ≤ 70; omega
        clear h70
        go_wp2_with (at_builtin; refine wpList_plain rfl fun K hK => wp_append_nodes (.tmp 41) (.tmp 45) rfl wa.heap.size (1 + (catN (ps.take k)).length) (n :: catN (ps.take k)) rfl HO.out pa x pc pn rfl HQ1.out HX.out.symm HQ2.out HBL.out.size (by have := hcb.out; have := HX70.out; omega) (fun v3 w3 hown3 hb3 => hK _ _ ?_))
        have HO3 : Hid (w3.ownsRow wa.heap.size 47 5 v3 (1 + (catN (ps.take (k + 1))).length) (ndCells (n :: catN (ps.take (k + 1))))) := by
          show w3.ownsRow _ _ _ _ _ _
          rw [hs.out, List.length_append, HX.out, ← Nat.add_assoc]
          exact hown3
        have HB3 := Lib.hid (HBL.out.trans hb3)
        have HK3 : Hid (∀ j, j < k + 1 → (Pt.at ps j).ns.length ≤ 70) := fun j hj => by
          rcases hpk.out j hj with h | rfl
          · exact h
          · rw [HPP.out]
            dsimp only
            rw [HX.out]
            exact HX70.out
        clear hown3 hb3
        go_wp2_with fail
        go_roundw
        case rel => exact ⟨k + 1, by have := HLT.out; omega, by go_num, HO3, HK3, HB3⟩
        case measure => have := HLT.out; simp [intOf]; omega
    · obtain rfl : k = ps.length := by omega
      rw [List.take_length] at HO
      have hcb := Lib.hid (cat_bound ps 70 ps.length (Nat.le_refl _) HK.out)
      rw [List.take_length] at hcb
      have hcb2 : Hid ((catN ps).length ≤ 420) := by
        have := hcb.out
        have : 70 * ps.length ≤ 70 * 6 := Nat.mul_le_mul_left 70 (by omega)
        show _ ≤ 420
        omega
      clear hcb
      obtain ⟨s0, s1, s2, s3, s4⟩ := HS5.out.below HBL.out (by have := za.out; omega)
      obtain ⟨aa, acap, rfl, _, _, _, haN⟩ := nds_own HO.out (by simp; omega)
      have HAN := Lib.hid haN
      have hT : (n :: catN ps).length = 1 + (catN ps).length := by simp; omega
      have HJ := Lib.hid (join_ok n HN.out a cap ps (by omega) (by have := hcb2.out; omega) HI.out wr (HS.out.after hbw.out) (HP.out.after hbw.out))
      unfold Nd.val at HJ
      have HOf := Lib.hid (fun w hS hN => of_term_ok aa acap (n :: catN ps) (by rw [hT]; have := hcb2.out; omega) HI.out w hS hN)
      clear haN
      have HBe := Lib.hid (fun i w hS hN => below_ok aa acap (n :: catN ps) (by rw [hT]; have := hcb2.out; omega) i w hS hN)
      have HSz := Lib.hid (fun i w hS hN => size_ok aa acap (n :: catN ps) (by rw [hT]; have := hcb2.out; omega) i w hS hN)
      have HNo := Lib.hid (fun b cb w hx hy => nodes_ok b aa cb acap (n :: catN ps) (by rw [hT]; have := hcb2.out; omega) w hx hy)
      unfold BelowEnd at HBe
      unfold SizeEnd at HSz
      have HTl := Lib.hid hT
      obtain ⟨Tn, hTn⟩ : ∃ t, (n :: catN ps).length = t := ⟨_, rfl⟩
      have HTn := Lib.hid hTn
      have hT420 : Tn ≤ 421 := by rw [← hTn, hT]; have := hcb2.out; omega
      obtain ⟨J, hJ⟩ : ∃ J, joinE n ps = J := ⟨_, rfl⟩
      have HJJ := Lib.hid hJ
      obtain ⟨ov, hov⟩ : ∃ ov, ofV (n :: catN ps) = ov := ⟨_, rfl⟩
      have HOV := Lib.hid hov
      rw [hTn, hov] at HOf
      rw [hTn] at HBe HSz HNo
      unfold JoinEnd at HJ
      rw [hJ] at HJ
      obtain ⟨so, er⟩ := ov
      dsimp only at HOf
      have HJE : Hid (J = if er ≠ 0 then er else if partsOk n ps then 0 else 14) := by
        show J = _
        rw [← HJJ.out]
        unfold joinE
        rw [HOV.out]
      rw [hTn]
      clear hT hTn hJ hov
      go_wp2_with fail
      with_reducible refine HJ.out.mono ?_
      rintro e w2 ⟨v, rfl, hj1, hj2, hb2⟩
      have HJ1 := Lib.hid hj1
      have HJ2 := Lib.hid hj2
      have HB2 := Lib.hid (hbw.out.trans (hb2.mono hbw.out.size))
      have HB2r := Lib.hid hb2
      have HAN2 := Lib.hid (HAN.out.after hb2)
      have HOf2 := Lib.hid (HOf.out w2 (HS.out.after HB2.out) HAN2.out)
      have HS52 := Lib.hid ((HS5.out.below HBL.out (by have := za.out; omega)).after hb2)
      clear hj1 hj2 hb2 HJ HOf s0 s1 s2 s3 s4
      go_wp2_with fail
      with_reducible refine HOf2.out.mono ?_
      rintro e w3 ⟨rfl, hb3⟩
      have HB3 := Lib.hid (HB2.out.trans (hb3.mono HB2.out.size))
      have HB3r := Lib.hid (HB2r.out.trans (hb3.mono HB2r.out.size))
      have HB23 := Lib.hid hb3
      have HAN3 := Lib.hid (HAN2.out.after hb3)
      obtain ⟨s0, s1, s2, s3, s4⟩ := HS52.out.after hb3
      clear hb3 HOf2 HAN2
      by_cases her : er = 0
      rotate_left
      · have heb : (er != 0) = true := by simp [her]
        have hJe : J = er := by rw [HJE.out, if_pos her]
        obtain rfl : v = .slice none 0 0 := HJ2.out (by rw [hJe]; exact her)
        have HAA := Lib.hid (HA.out w3 (HS.out.after HB3.out))
        subst hJe
        clear her
        go_wp2_with fail
        with_reducible refine HAA.out.mono ?_
        rintro e w7 ⟨rfl, hb7⟩
        go_wp2_with fail
        go_ret
        exact ⟨rfl, HB3.out.trans (hb7.mono HB3.out.size)⟩
      subst her
      have hok := ofV_ok (show (ofV (n :: catN ps)).2 = 0 by rw [HOV.out])
      have hso : so = shp n.op 0 := by
        have := hok.2.2.2.2.2.2
        rw [HOV.out] at this
        exact this
      subst hso
      have hskip : skip 1 ((opsOf (n :: catN ps)).drop 0) = some Tn := by rw [List.drop_zero, ← HTn.out]; exact hok.2.2.1
      obtain ⟨hz1, hz2⟩ := places_ok (ns := n :: catN ps) (i := 0) hok.2.1 hskip
      have HB0 := Lib.hid (HBe.out ((0 : Nat) : Int) w3 (HS.out.after HB3.out) HAN3.out)
      rw [hz1, hz2] at HB0
      rw [show ((0 : Nat) : Int) = 0 from rfl] at HB0
      dsimp only at HB0
      have hJF : Hid (J = if partsOk n ps then 0 else 14) := by
        show J = _
        rw [HJE.out, if_neg (by simp)]
      have hfit : Hid (partsOk n ps ↔ fitsP n ps) := join_fits (by rw [HOV.out])
      have hsz : Hid (fitsP n ps → ∀ k, k < ps.length → sizeV (n :: catN ps) (startN ps k) = (((Pt.at ps k).ns.length : Int), 0)) := fun hf k hk => join_size (by rw [HOV.out]) hf hk
      clear hok hskip hz1 hz2 HBe
      go_wp2_with fail
      with_reducible refine HB0.out.mono ?_
      rintro e w4 ⟨vp, rfl, hownp, hb4⟩
      obtain ⟨M, hM⟩ : ∃ M, mny (Nd.at (n :: catN ps) 0).op = M := ⟨_, rfl⟩
      rw [hM] at hownp
      have hM' : mny n.op = M := hM
      have hM4 : M ≤ 4 := by rw [← hM]; exact (mny_int _).2
      have hPlen : ((kidsL (n :: catN ps) 0 M).map (·.2)).length = M := by rw [List.length_map, kidsL_len]
      have hPg : Hid (∀ j, j < M → ((kidsL (n :: catN ps) 0 M).map (·.2)).getD j 0 = (place (n :: catN ps) 0 j : Int)) := fun j hj => kidsL_get _ 0 M j hj
      obtain ⟨pl, hpl⟩ : ∃ ps', (kidsL (n :: catN ps) 0 M).map (·.2) = ps' := ⟨_, rfl⟩
      rw [hpl] at hownp hPlen hPg
      obtain ⟨la, lcap, rfl, _, _, hla⟩ := ints_own hownp rfl
      rw [hPlen]
      have HPL := Lib.hid hPlen
      have HLA := Lib.hid hla
      have HB4 := Lib.hid (HB3.out.trans (hb4.mono HB3.out.size))
      have HB4r := Lib.hid (HB3r.out.trans (hb4.mono HB3r.out.size))
      have HB24 := Lib.hid (HB23.out.trans (hb4.mono HB23.out.size))
      have HAN4 := Lib.hid (HAN3.out.after hb4)
      have hfP : Hid (fitsP n ps ↔ (M = ps.length ∧ ∀ j, j < ps.length → place (n :: catN ps) 0 j = startN ps j)) := by
        show _ ↔ _
        unfold fitsP
        rw [hM']
      have s04 := below_cell hb4 s0
      have HSo := Lib.hid (sort_ok n.op w4 (HS.out.after HB4.out))
      clear hownp hla hpl hPlen hM hM' hb4 HB0 s0 s1 s2 s3 s4 HAN3
      go_wp2_with fail
      with_reducible refine HSo.out.mono ?_
      rintro e w5 ⟨rfl, hb5⟩
      have HB5 := Lib.hid (HB4.out.trans (hb5.mono HB4.out.size))
      have HB5r := Lib.hid (HB4r.out.trans (hb5.mono HB4r.out.size))
      have HB25 := Lib.hid (HB24.out.trans (hb5.mono HB24.out.size))
      have HLA5 := Lib.hid (HLA.out.after hb5)
      have HAN5 := Lib.hid (HAN4.out.after hb5)
      clear hb5 HSo s04 HLA HAN4
      go_wp2_with fail
      go_loopw [13, 14, 15] (fun f s c wi => ∃ (k : Nat) (fb : Bool), k ≤ ps.length ∧ c = .int .i64 (k : Int) ∧ s = .int .i64 (startN ps k : Int) ∧ f = .bool fb ∧ Hid (fb = true ↔ (M = ps.length ∧ ∀ j, j < k → place (n :: catN ps) 0 j = startN ps j)) ∧ Hid (Below w5.heap.size w5 wi)) (fun _ _ c _ => ps.length - (intOf c).toNat)
      case atStart => exact ⟨0, _, by omega, by simp, by simp [startN, catN], rfl, (show _ ↔ _ by simp; omega), (show Below _ _ _ from Below.refl _ _)⟩
      case round =>
        obtain ⟨k, fb, hk, rfl, rfl, rfl, HF, HBL5⟩ := hrel
        by_cases hlt : k < ps.length
        · have hlt' : (k : Int) < (ps.length : Int) := by omega
          obtain ⟨b, o, e', hcc⟩ := (HP.out.after (HB5.out.trans (HBL5.out.mono HB5.out.size))).1 (by omega)
          subst e'
          have c0 : wr.cell? ⟨b, o + k, none⟩ = some (.slice (Pt.at ps k).a (Pt.at ps k).ns.length (Pt.at ps k).cap) := by
            have := hcc k hlt 0 _ rfl
            rwa [Nat.mul_one, Nat.add_zero] at this
          have hst := Lib.hid (startN_succ ps k hlt)
          have hle2 := startN_le ps (k + 1)
          have hcb := hcb2.out
          obtain ⟨⟨pa, pc, pn⟩, hpp⟩ : ∃ p, Pt.at ps k = p := ⟨_, rfl⟩
          rw [hpp] at c0 hst
          dsimp only at c0 hst
          obtain ⟨x, hx⟩ : ∃ x, pn.length = x := ⟨_, rfl⟩
          obtain ⟨y, hy⟩ : ∃ y, startN ps k = y := ⟨_, rfl⟩
          obtain ⟨y', hy'⟩ : ∃ y, startN ps (k + 1) = y := ⟨_, rfl⟩
          rw [hx] at c0 hst
          rw [hy] at hst ⊢
          rw [hy'] at hst hle2
          have HYk := Lib.hid hy
          have HY := Lib.hid hy'
          have hxy : (y : Int) + (x : Int) = (y' : Int) := by have := hst.out; omega
          have hwy : IntKind.i64.wrap ((y : Int) + (x : Int)) = (y' : Int) := by rw [hxy]; exact IntWalk.i64_in _ (by omega)
          have hwk : IntKind.i64.wrap ((k : Int) + 1) = (k : Int) + 1 := IntWalk.i64_in _ (by omega)
          have HLT := Lib.hid hlt
          clear hcc hpp hx hy hy' hst hle2 hcb hlt hxy
          cases fb with
          | false =>
            have HFN : Hid (false = true ↔ (M = ps.length ∧ ∀ j, j < k + 1 → place (n :: catN ps) 0 j = startN ps j)) := by
              show _ ↔ _
              refine ⟨fun h => (by cases h), fun h => HF.out.2 ⟨h.1, fun j hj => h.2 j (by omega)⟩⟩
            go_wp2_with fail
            refine ⟨⟨k + 1, false, by have := HLT.out; omega, by go_num, by rw [HY.out], rfl, HFN, HBL5⟩, by have := HLT.out; simp [intOf]; omega⟩
          | true =>
            obtain ⟨hML, hFk⟩ := HF.out.1 rfl
            have hkM : (k : Int) < (M : Int) := by omega
            obtain ⟨bx, ox, rfl, hcx⟩ := (HLA5.out.after HBL5.out) (by rw [HPL.out]; have := HLT.out; omega)
            have cx : wr.cell? ⟨bx, ox + k, none⟩ = some (.int .i64 (place (n :: catN ps) 0 k : Int)) := by
              have := hcx k (by rw [HPL.out]; have := HLT.out; omega) 0 _ rfl
              rwa [Nat.mul_one, Nat.add_zero, hPg.out k (by have := HLT.out; omega)] at this
            obtain ⟨p, hp⟩ : ∃ p, place (n :: catN ps) 0 k = p := ⟨_, rfl⟩
            rw [hp] at cx
            have HPp := Lib.hid hp
            have HML := Lib.hid hML
            have HFk := Lib.hid hFk
            clear hcx hp hML hFk
            by_cases hpy : p = y
            · have hpb : ((p : Int) == (y : Int)) = true := by simp [hpy]
              have HFN : Hid (true = true ↔ (M = ps.length ∧ ∀ j, j < k + 1 → place (n :: catN ps) 0 j = startN ps j)) := by
                show _ ↔ _
                refine ⟨fun _ => ⟨HML.out, fun j hj => ?_⟩, fun _ => rfl⟩
                rcases Nat.lt_or_ge j k with h | h
                · exact HFk.out j h
                · obtain rfl : j = k := by omega
                  rw [HPp.out, HYk.out]
                  exact hpy
              clear hpy
              go_wp2_with fail
              refine ⟨⟨k + 1, true, by have := HLT.out; omega, by go_num, by rw [HY.out], rfl, HFN, HBL5⟩, by have := HLT.out; simp [intOf]; omega⟩
            · have hpb : ((p : Int) == (y : Int)) = false := by simp; omega
              have HFN : Hid (false = true ↔ (M = ps.length ∧ ∀ j, j < k + 1 → place (n :: catN ps) 0 j = startN ps j)) := by
                show _ ↔ _
                refine ⟨fun h => (by cases h), fun h => absurd (h.2 k (by omega)) ?_⟩
                rw [HPp.out, HYk.out]
                exact hpy
              clear hpy
              go_wp2_with fail
              refine ⟨⟨k + 1, false, by have := HLT.out; omega, by go_num, by rw [HY.out], rfl, HFN, HBL5⟩, by have := HLT.out; simp [intOf]; omega⟩
        · obtain rfl : k = ps.length := by omega
          have HBw := Lib.hid (HB5.out.trans (HBL5.out.mono HB5.out.size))
          have hfF : Hid (fb = true ↔ fitsP n ps) := HF.out.trans hfP.out.symm
          cases fb with
          | false =>
            have hnf : Hid (J = 14) := by
              show J = 14
              rw [hJF.out, if_neg (fun h => by
                have := hfF.out.2 (hfit.out.1 h)
                cases this)]
            obtain rfl : J = 14 := hnf.out
            obtain rfl : v = .slice none 0 0 := HJ2.out (by decide)
            have HAA := Lib.hid (HA.out wr (HS.out.after HBw.out))
            go_wp2_with fail
            with_reducible refine HAA.out.mono ?_
            rintro e w7 ⟨rfl, hb7⟩
            go_wp2_with fail
            go_ret
            exact ⟨rfl, HBw.out.trans (hb7.mono HBw.out.size)⟩
          | true =>
            have hF := hfF.out.1 rfl
            obtain ⟨hML, _⟩ := HF.out.1 rfl
            have HML := Lib.hid hML
            have hszF := Lib.hid (hsz.out hF)
            have hplF : Hid (∀ j, j < M → place (n :: catN ps) 0 j = startN ps j) := fun j hj => (hfP.out.1 hF).2 j (by omega)
            obtain rfl : J = 0 := by
              rw [hJF.out, if_pos (hfit.out.2 hF)]
            have hownv := HJ1.out rfl
            have HOV' := Lib.hid (own_after hownv (HB25.out.trans (HBL5.out.mono HB25.out.size)))
            clear hownv hF hML
            go_wp2_with fail
            obtain ⟨wz, hwz⟩ : ∃ wz, wr = wz := ⟨_, rfl⟩
            rw [hwz] at HBw HOV' HBL5
            go_loopw [16, 17] (fun s c wi => ∃ k : Nat, k ≤ M ∧ c = .int .i64 (k : Int) ∧ s = .int .i64 (startN ps k : Int) ∧ Hid (Below wz.heap.size wz wi)) (fun _ c _ => M - (intOf c).toNat)
            case atStart => exact ⟨0, by omega, by simp, by simp [startN, catN], (show Below _ _ _ by rw [← hwz]; exact Below.refl _ _)⟩
            case round =>
              obtain ⟨k, hk, rfl, rfl, HBk⟩ := hrel
              have HBk5 := Lib.hid (HBL5.out.trans (HBk.out.mono HBL5.out.size))
              have HBkW := Lib.hid (HBw.out.trans (HBk.out.mono HBw.out.size))
              by_cases hlt : k < M
              · have hlt' : (k : Int) < (M : Int) := by omega
                have hkp : k < ps.length := by have := HML.out; omega
                obtain ⟨b, o, e', hcc⟩ := (HP.out.after HBkW.out).1 (by omega)
                subst e'
                obtain ⟨bx, ox, rfl, hcx⟩ := (HLA5.out.after HBk5.out) (by rw [HPL.out]; omega)
                have cx : wr.cell? ⟨bx, ox + k, none⟩ = some (.int .i64 (startN ps k : Int)) := by
                  have := hcx k (by rw [HPL.out]; omega) 0 _ rfl
                  rwa [Nat.mul_one, Nat.add_zero, hPg.out k hlt, hplF.out k hlt] at this
                have HSS := Lib.hid (HSz.out (startN ps k : Int) wr (HS.out.after HBkW.out) (HAN5.out.after HBk5.out))
                rw [hszF.out k hkp] at HSS
                dsimp only at HSS
                have hst := Lib.hid (startN_succ ps k hkp)
                have hle2 := startN_le ps (k + 1)
                have hcb := hcb2.out
                have hpc : Hid (∀ w', Below wr.heap.size wr w' → w'.cell? ⟨b, o + k, none⟩ = some (.slice (Pt.at ps k).a (Pt.at ps k).ns.length (Pt.at ps k).cap)) := fun w' hw' => by
                  have := (show wr.cell? _ = _ from hcc k hkp 0 _ rfl)
                  rw [Nat.mul_one, Nat.add_zero] at this
                  exact below_cell hw' this
                obtain ⟨⟨pa, pc, pn⟩, hpp⟩ : ∃ p, Pt.at ps k = p := ⟨_, rfl⟩
                rw [hpp] at hst HSS hpc
                dsimp only at hst HSS hpc
                obtain ⟨x, hx⟩ : ∃ x, pn.length = x := ⟨_, rfl⟩
                obtain ⟨y, hy⟩ : ∃ y, startN ps k = y := ⟨_, rfl⟩
                obtain ⟨y', hy'⟩ : ∃ y, startN ps (k + 1) = y := ⟨_, rfl⟩
                rw [hx] at hst HSS hpc
                rw [hy] at hst HSS cx ⊢
                rw [hy'] at hst hle2
                have HY := Lib.hid hy'
                have hxy : (y : Int) + (x : Int) = (y' : Int) := by have := hst.out; omega
                have hwy : IntKind.i64.wrap ((y : Int) + (x : Int)) = (y' : Int) := by rw [hxy]; exact IntWalk.i64_in _ (by omega)
                have hwk : IntKind.i64.wrap ((k : Int) + 1) = (k : Int) + 1 := IntWalk.i64_in _ (by omega)
                have hkL : (k : Int) < (ps.length : Int) := by omega
                have HLT := Lib.hid hlt
                clear hcc hcx hpp hx hy hy' hst hle2 hcb hlt hxy hkp
                go_wp2_with fail
                with_reducible refine HSS.out.mono ?_
                rintro e w7 ⟨rfl, hb7⟩
                have c07 : w7.cell? ⟨b, o + k, none⟩ = some (.slice pa x pc) := hpc.out w7 hb7
                have HB7 : Hid (Below wz.heap.size wz w7) := HBk.out.trans (hb7.mono HBk.out.size)
                clear hb7
                go_wp2_with fail
                refine ⟨⟨k + 1, by have := HLT.out; omega, by go_num, by rw [HY.out], HB7⟩, by have := HLT.out; simp [intOf]; omega⟩
              · obtain rfl : k = M := by omega
                have hsum : startN ps k = Tn := by rw [HML.out, startN_all, ← HTn.out, HTl.out]
                rw [hsum]
                obtain ⟨va, vcap, rfl, _, _, _, hvN⟩ := nds_own HOV'.out (by rw [HTl.out])
                rw [HTn.out]
                have HNN := Lib.hid (HNo.out va vcap wr (hvN.after HBk.out) (HAN5.out.after HBk5.out))
                clear hsum hvN
                go_wp2_with fail
                with_reducible refine HNN.out.mono ?_
                rintro e w7 ⟨rfl, hb7⟩
                have HB7 := Lib.hid (HBkW.out.trans (hb7.mono HBkW.out.size))
                have HAA := Lib.hid (HA.out w7 (HS.out.after HB7.out))
                clear hb7
                go_wp2_with fail
                with_reducible refine HAA.out.mono ?_
                rintro e w8 ⟨rfl, hb8⟩
                go_wp2_with fail
                go_ret
                exact ⟨rfl, HB7.out.trans (hb8.mono HB7.out.size)⟩

end Go.Proofs.YtglnnllodoljkaaDoor
