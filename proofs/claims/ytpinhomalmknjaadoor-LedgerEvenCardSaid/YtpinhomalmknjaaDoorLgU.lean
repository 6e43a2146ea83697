/- The statement LedgerEven: its walk. -/
import Derived.Test.YtpinhomalmknjaaDoorLgT
import Derived.Deep.DeepCutAuto
import Derived.Deep.CutRange
namespace Go.Proofs.YtpinhomalmknjaaDoor
open Go.RowKit Go.Sort Go.Shelf
set_option linter.unusedVariables false
set_option linter.unusedSimpArgs false
set_option maxRecDepth 100000

def cntK (L : List EnP) (k r : Nat) : Int := if ((L.take k).any fun e => decide (e.s.ref = (r : Int))) = true then 1 else 0
def timesV (L : List EnP) (k : Nat) : Array Value := ((List.range 200).map fun r => Value.int .i64 (cntK L k r)).toArray
theorem times0 (L : List EnP) : Tryd.zeroCells71 = timesV L 0 := by
  unfold timesV
  rw [show (fun r : Nat => Value.int .i64 (cntK L 0 r)) = fun _ => Value.int .i64 0 from by funext r; simp [cntK]]
  kernel_rfl
theorem times_same {L : List EnP} {k : Nat} {e : EnP} (he : L[k]? = some e) (h : ∀ r : Nat, e.s.ref ≠ (r : Int)) : timesV L (k + 1) = timesV L k := by
  unfold timesV
  congr 1
  apply List.map_congr_left
  intro r _
  unfold cntK
  rw [List.take_add_one, he]
  simp [List.any_append, h r]
theorem times_next {L : List EnP} {k ri : Nat} {e : EnP} (hw : WL L) (he : L[k]? = some e) (h : e.s.ref = (ri : Int)) : (timesV L k)[ri]? = (if ri < 200 then some (.int .i64 0) else none) ∧ (timesV L k).setIfInBounds ri (.int .i64 1) = timesV L (k + 1) := by
  have hno : ((L.take k).any fun e => decide (e.s.ref = (ri : Int))) = false := by
    rw [List.any_eq_false]
    intro f hf hd
    have hd' : f.s.ref = (ri : Int) := by simpa using hd
    obtain ⟨j, hj, hjf⟩ := List.getElem_of_mem hf
    have hjk : j < k := by simp at hj; omega
    have hf2 : L[j]? = some f := by rw [← hjf]; rw [List.getElem_take]; simp
    have := hw.one j k f e hf2 he (by rw [hd', h]) (by rw [hd']; omega)
    omega
  constructor
  · unfold timesV
    by_cases hr : ri < 200
    · rw [if_pos hr]
      simp [hr, cntK]
      simpa using hno
    · rw [if_neg hr]
      simp [hr]
  · unfold timesV
    apply Array.ext_getElem?
    intro r
    rw [Array.getElem?_setIfInBounds]
    by_cases hr : r < 200
    · by_cases e0 : ri = r
      · subst e0
        simp [hr, cntK, List.take_add_one, he, h]
      · rw [if_neg e0]
        have : e.s.ref ≠ (r : Int) := by rw [h]; omega
        simp [hr, cntK, List.take_add_one, he, this, List.any_append]
    · by_cases e0 : ri = r
      · subst e0; simp [hr]
      · rw [if_neg e0]; simp [hr]
theorem same_at {Z Z2 : List En} {L R : List EnP} (h : Z2.map En.p = L) (hL : L = Z.map En.p ++ R) : ∀ k, k < Z.length → (En.at Z2 k).s = (En.at Z k).s ∧ (En.at Z2 k).ls = (En.at Z k).ls := fun k hk => by
  have h1 : (Z2.map En.p)[k]? = (Z.map En.p)[k]? := by rw [h, hL, List.getElem?_append_left (by simpa using hk)]
  rw [List.getElem?_map, List.getElem?_map, List.getElem?_eq_getElem hk] at h1
  obtain ⟨x, hx, hxp⟩ := Option.map_eq_some_iff.1 h1
  have e1 : En.at Z k = Z[k] := by unfold En.at; rw [List.getD_eq_getElem?_getD, List.getElem?_eq_getElem hk]; rfl
  have e2 : En.at Z2 k = x := by unfold En.at; rw [List.getD_eq_getElem?_getD, hx]; rfl
  rw [e1, e2]
  have := congrArg EnP.s hxp
  have h3 := congrArg EnP.ls hxp
  exact ⟨this, h3⟩
theorem new_at {Z Z2 : List En} {X : List EnP} {op os : Int} {L : List EnP} (h : Z2.map En.p = L) (hL : L = Z.map En.p ++ X.map (stamp op os)) : ∀ k, Z.length ≤ k → k < Z2.length → (En.at Z2 k).s.seq = os ∧ (En.at Z2 k).s.per = op := fun k hk hk2 => by
  have h1 : (Z2.map En.p)[k]? = (X.map (stamp op os))[k - Z.length]? := by rw [h, hL, List.getElem?_append_right (by simpa using hk)]; simp
  rw [List.getElem?_map, List.getElem?_map, List.getElem?_eq_getElem hk2] at h1
  obtain ⟨x, hx, hxp⟩ := Option.map_eq_some_iff.1 h1.symm
  have e2 : En.at Z2 k = Z2[k] := by unfold En.at; rw [List.getD_eq_getElem?_getD, List.getElem?_eq_getElem hk2]; rfl
  rw [e2]
  have := congrArg EnP.s hxp
  have h3 : (Z2[k]).s = (stamp op os x).s := this.symm
  rw [h3]
  exact ⟨rfl, rfl⟩
theorem at_okE {w : World} {Z : List En} (h : ∀ e ∈ Z, EnOk w e) {k : Nat} (hk : k < Z.length) : EnOk w (En.at Z k) := h _ (at_memE hk)
set_option maxHeartbeats 200000000 in
theorem walk_LedgerEven (w : World) (hR : RulesAt w) (a : Option Addr) (cap : Nat) (ops : List Opc) (h : OpsIn w a ops) (hl : ops.length ≤ maxLen) :
    Calls Tryd.prog 7 #[.slice a ops.length cap] w (TrueEnd w) := by
  have H := Lib.hid h
  have HR := Lib.hid hR
  have HFw := Lib.hid (few15 a cap ops w h hl)
  have hl' : ops.length ≤ 9223372036854775807 := by unfold maxLen at hl; omega
  clear hR h hl
  go_enter Tryd.func7, Tryd.ntmps7
  go_wp2_with fail
  with_reducible refine HFw.out.mono ?_
  rintro e w1 ⟨bb, rfl, hfew, hb1⟩
  have HFew := Lib.hid hfew
  have HB1 := Lib.hid hb1
  clear hfew hb1 HFw
  cases bb
  · go_wp2_with fail
    with_reducible refine (awake15 w1 (HR.out.after HB1.out)).mono ?_
    rintro e w2 ⟨rfl, hb2⟩
    go_wp2_with fail
    go_ret
    exact ⟨rfl, HB1.out.trans (hb2.mono HB1.out.size)⟩
  have hw1 : 0 < w.heap.size := World.block_lt_of_cell? w _ HR.out.r0
  obtain ⟨hn20, hfew⟩ := HFew.out rfl
  have HFew2 := Lib.hid hfew
  clear hfew HFew
  go_wp2_with fail
  with_reducible refine (lnew_ok w1).mono ?_
  rintro e w2 ⟨p, bm, la, lc, rfl, hL2, hb2, hp2, -⟩
  have HL2 := Lib.hid hL2
  have HB2 := Lib.hid (HB1.out.trans (hb2.mono HB1.out.size))
  have hpw : p < w2.heap.size := hL2.blk.lt
  have zp : w.heap.size ≤ p := by have := HB1.out.size; omega
  clear hL2 hb2 HB1
  go_wp2_with fail
  with_reducible refine (pnew_box 30 w2 (by omega) (by omega)).mono ?_
  rintro e w3 ⟨b, s, rfl, hP3, hX3, hb3, hzb, hzs, hsb⟩
  have z2 := HB2.out.size
  have HA : Hid (Apart3 w p b s) := ⟨zp, by omega, by omega, by omega, by omega, hsb⟩
  have HE3 : Hid (EvS w p b s 0 none 0 [] w3) := ⟨⟨bm, la, lc, [], HL2.out.after hb3, rfl⟩, WL.nil, ⟨0, hP3, by omega, by omega⟩, hX3, ⟨fun h => absurd h (by simp), by simp, by unfold maxLen; omega, .inl ⟨rfl, rfl, rfl⟩⟩, by simp, by simp, HB2.out.trans (hb3.mono z2)⟩
  clear hP3 hX3 hb3 HL2 HB2 z2 hzb hzs hsb hpw zp
  go_wp2_with fail
  go_loopw [6, 7] (fun v u wr => ∃ i : Nat, i ≤ ops.length ∧ u = .int .i64 i ∧ ∃ (aw : Option Addr) (cw : Nat) (Z : List En), v = .slice aw Z.length cw ∧ EvS w p b s i aw cw Z wr) (fun _ u _ => ops.length - (intOf u).toNat)
  case atStart => exact ⟨0, by omega, rfl, none, 0, [], rfl, HE3.out⟩
  case round =>
    obtain ⟨i, hi, rfl, aw, cw, Z, rfl, hE⟩ := hrel
    by_cases hlt : i < ops.length
    · obtain ⟨ab, ao, rfl, hbb, hcell⟩ := H.out.cells (by omega)
      have hC := Lib.hid (hcell i hlt)
      have hO := Lib.hid (H.out.2 i hlt)
      have hF : Hid (FewO (Opc.at ops i)) := Lib.hid (HFew2.out _ (by unfold Opc.at; rw [List.getD_eq_getElem?_getD, List.getElem?_eq_getElem hlt]; exact List.getElem_mem hlt))
      obtain ⟨⟨op, os, ok, oa, ocap, oes⟩, hOO⟩ : ∃ x, Opc.at ops i = x := ⟨_, rfl⟩
      rw [hOO] at hC hO hF
      have HE := Lib.hid hE
      have hZi := hE.len
      have hrw : Hid (∀ x ∈ oes, (Lit.int .i64 x.s.ref).wf = true) := fun x hx => by
        obtain ⟨k, hk, rfl⟩ := List.getElem_of_mem hx
        have := (hO.out.en.2 k hk).rw
        unfold En.at at this
        rwa [List.getD_eq_getElem?_getD, List.getElem?_eq_getElem hk] at this
      have i1 : (0 : Int) ≤ (i : Int) := by omega
      have i2 : (i : Int) < (ops.length : Int) := by omega
      clear hcell hOO hE
      obtain ⟨l, hPl, hl0, hli⟩ := HE.out.per
      have hl4 : l ≤ lastP 30 := Int.le_trans (show l ≤ 20 by omega) (by decide)
      have HPl := Lib.hid hPl
      clear hPl
      obtain ⟨c0, c1, c2, c3⟩ := hC.out.after HE.out.be hbb
      dsimp only at c0 c1 c2 c3
      go_upto_if 49 with (fail)
      go_cut [8, 9] from 39 to 187 (fun v8 v9 wx => EvS w p b s (i + 1) aw cw Z wx)
      case first =>
        clear c0 c1 c3
        cases ok
        · clear c2
          go_wp2_with fail
          go_meet
          case rel => exact HE.out.up
        · clear c2
          go_wp2_with fail
          with_reducible refine (pearliest_ok b s 30 l _ HPl.out (by omega) hl4).mono ?_
          rintro e w4 ⟨rfl, hb4⟩
          have HE4 := Lib.hid (HE.out.after hb4)
          have HP4 := Lib.hid (HPl.out.after hb4)
          clear hb4
          go_wp2_with fail
          with_reducible refine (plock_box b s l 73048 w4 HP4.out HE4.out.pb hl0 (by omega)).mono ?_
          rintro e w5 hk
          obtain ⟨n, rfl, hE5⟩ := HE4.out.lock HA.out hl0 hli hk
          have HE5 := Lib.hid hE5
          clear hk hE5
          go_wp2_with fail
          go_meet
          case rel => exact HE5.out
      case rest =>
        have HEv := Lib.hid hcut
        clear hcut c0 c1 c2 c3 HE HPl
        go_wp2_with fail
        have HEd := Lib.hid (HEv.out.after (Below.refl wc.heap.size wc).drew)
        have HPo := Lib.hid (HEd.out.post HA.out HR.out (by omega) op os oa ocap oes ((hO.out.en.after HEd.out.be).few hF.out.2) hF.out.1 hrw.out)
        have HS : Hid (∀ w' : World, Below w.heap.size w w' → w'.cell? ⟨ab, ao + i * 4, none⟩ = some (.int .i64 op) ∧ w'.cell? ⟨ab, ao + i * 4 + 1, none⟩ = some (.int .i64 os) ∧ w'.cell? ⟨ab, ao + i * 4 + 3, none⟩ = some (.slice oa oes.length ocap)) := fun w' hw' => by
          have hc := hC.out.after hw' hbb
          exact ⟨hc.1, hc.2.1, hc.2.2.2⟩
        go_region_held3 (fun w' => w'.cell? ⟨ab, ao + i * 4, none⟩ = some (.int .i64 op) ∧ w'.cell? ⟨ab, ao + i * 4 + 1, none⟩ = some (.int .i64 os) ∧ w'.cell? ⟨ab, ao + i * 4 + 3, none⟩ = some (.slice oa oes.length ocap))
          (first | with_reducible exact HS.out _ HEd.out.be | with_reducible exact HS.out _ hM.be | go_keep)
          (first
            | (go_at_call 20; (with_reducible refine HPo.out.mono ?_); rintro e w6 ⟨L, er, no, rfl, hL, hM⟩))
        have HM6 := Lib.hid hM
        have HL6 := Lib.hid hL
        clear hL hM HPo HEd HEv
        obtain ⟨bm6, a6, cap6, E6, hG6, hE6⟩ := HM6.out.ex
        have hL6 : L.length ≤ Z.length + 6 := by
          have h6 := hF.out.1
          dsimp only at h6
          rcases HL6.out with ⟨_, _, h⟩ | ⟨_, h⟩
          · rw [h]; simp; omega
          · rw [h]; simp
        have hE6l : E6.length ≤ 200 := by have := congrArg List.length hE6; simp at this; omega
        have HAl := Lib.hid (lall_ok p bm6 a6 cap6 E6 w6 hG6 (by omega))
        have HE6 := Lib.hid hE6
        clear hG6 hE6
        go_wp2_with fail
        with_reducible refine HAl.out.mono ?_
        rintro e w7 hA
        obtain ⟨Bc, rfl, hb7, hLi⟩ := SeqAEnd.listed hA hE6l
        have HLi := Lib.hid hLi
        have HM7 := Lib.hid (HM6.out.after hb7)
        clear hA hLi hb7 HM6 HAl
        go_wp2_with fail
        with_reducible refine HLi.out.mono ?_
        rintro e w8 ⟨an, cn, ae, ce, zs, hzs, rfl, -, hse, hok, hb8, -⟩
        have hm : (idxP (E6.map En.p)).length = (zs.map Prod.snd).length := by rw [← hzs]; simp
        rw [hm]
        have hz2 := zs_p hzs
        obtain ⟨Z2, hZ2⟩ : ∃ Z2, zs.map Prod.snd = Z2 := ⟨_, rfl⟩
        rw [hZ2] at hse hz2 ⊢
        have HN8 : Hid (NowS w p b s (i + 1) aw cw Z L er op ae ce Z2 w8) := ⟨HM7.out.after hb8, hse, fun e he => by
          rw [← hZ2] at he
          obtain ⟨z, hz, rfl⟩ := List.mem_map.1 he
          exact hok z hz, hz2.trans HE6.out⟩
        have hlen2 : Z2.length = L.length := by rw [← HN8.out.eq]; simp
        clear hm hz2 hse hok hb8 hzs hZ2 HM7 HLi
        rcases HL6.out with ⟨rfl, rfl, hLL⟩ | ⟨hne, hLL⟩
        · have hl2 : Z2.length = Z.length + oes.length := by rw [hlen2, hLL]; simp
          have t1 : decide ((Z2.length : Int) < (Z.length : Int)) = false := decide_eq_false (by omega)
          have t2 : (Z.length : Int) + (oes.length : Int) = (Z2.length : Int) := by omega
          have HLL := Lib.hid hLL
          clear hLL
          obtain ⟨hc0, hc1, hc3⟩ := HS.out _ HN8.out.mid.be
          go_wp2_with fail
          clear hc0 hc1 hc3
          have HKs := Lib.hid (same_at HN8.out.eq HLL.out)
          have HNw := Lib.hid (new_at HN8.out.eq HLL.out)
          go_loopw [15] (fun v wk => ∃ k : Nat, k ≤ Z.length ∧ v = .int .i64 k ∧ NowS w p b s (i + 1) aw cw Z L 0 op ae ce Z2 wk) (fun v _ => Z.length - (intOf v).toNat)
          case atStart => exact ⟨0, by omega, rfl, HN8.out⟩
          case round =>
            obtain ⟨k, hk, rfl, hN⟩ := hrel
            have HN := Lib.hid hN
            clear hN
            by_cases hkl : k < Z.length
            · obtain ⟨wb, wo, rfl, hwb, hwc⟩ := HN.out.mid.sl.at7 (by omega)
              obtain ⟨nb, no', rfl, hnb, hnc⟩ := HN.out.sl.at7 (by omega)
              have g1 := hwc k hkl
              have g2 := hnc k (by omega)
              have o1 := at_okE HN.out.mid.ok hkl
              have o2 := at_okE HN.out.ok (show k < Z2.length by omega)
              obtain ⟨e1, e2⟩ := HKs.out k hkl
              obtain ⟨⟨⟨x0, x1, x2, x3, x4, x5⟩, xa, xc, xl⟩, hX⟩ : ∃ E, En.at Z k = E := ⟨_, rfl⟩
              obtain ⟨⟨ys, ya, yc, yl⟩, hY⟩ : ∃ E, En.at Z2 k = E := ⟨_, rfl⟩
              rw [hX] at g1 o1 e1 e2
              rw [hY] at g2 o2 e1 e2
              dsimp only at e1 e2
              subst e1 e2
              clear hX hY hwc hnc
              have bd := (Below.refl wr.heap.size wr).drew
              have HG : Hid (∀ W, Below wr.heap.size wr W → (W.cell? ⟨wb, wo + k * 7, none⟩ = some (.int .i64 x0) ∧ W.cell? ⟨wb, wo + k * 7 + 1, none⟩ = some (.int .i64 x1) ∧ W.cell? ⟨wb, wo + k * 7 + 2, none⟩ = some (.int .i64 x2) ∧ W.cell? ⟨wb, wo + k * 7 + 3, none⟩ = some (.int .i64 x3) ∧ W.cell? ⟨wb, wo + k * 7 + 4, none⟩ = some (.int .i64 x4) ∧ W.cell? ⟨wb, wo + k * 7 + 5, none⟩ = some (.int .i64 x5) ∧ W.cell? ⟨wb, wo + k * 7 + 6, none⟩ = some (.slice xa yl.length xc)) ∧ (W.cell? ⟨nb, no' + k * 7, none⟩ = some (.int .i64 x0) ∧ W.cell? ⟨nb, no' + k * 7 + 1, none⟩ = some (.int .i64 x1) ∧ W.cell? ⟨nb, no' + k * 7 + 2, none⟩ = some (.int .i64 x2) ∧ W.cell? ⟨nb, no' + k * 7 + 3, none⟩ = some (.int .i64 x3) ∧ W.cell? ⟨nb, no' + k * 7 + 4, none⟩ = some (.int .i64 x4) ∧ W.cell? ⟨nb, no' + k * 7 + 5, none⟩ = some (.int .i64 x5) ∧ W.cell? ⟨nb, no' + k * 7 + 6, none⟩ = some (.slice ya yl.length yc))) := fun W hW => ⟨g1.after hW hwb, g2.after hW hnb⟩
              have hsy := same_yes ⟨x0, x1, x2, x3, x4, x5⟩ xa ya xc yc yl wr.drew (o1.after bd).ln (o2.after bd).ln (Nat.le_trans o1.few (by omega))
              dsimp only [entV] at hsy
              have HSY := Lib.hid hsy
              have k1 : (0 : Int) ≤ (k : Int) := by omega
              have k2 : (k : Int) < (Z.length : Int) := by omega
              have k3 : (k : Int) < (L.length : Int) := by omega
              clear g1 g2 o1 o2 hsy
              go_wp2_with fail
              go_region_held3 (fun w' => (w'.cell? ⟨wb, wo + k * 7, none⟩ = some (.int .i64 x0) ∧ w'.cell? ⟨wb, wo + k * 7 + 1, none⟩ = some (.int .i64 x1) ∧ w'.cell? ⟨wb, wo + k * 7 + 2, none⟩ = some (.int .i64 x2) ∧ w'.cell? ⟨wb, wo + k * 7 + 3, none⟩ = some (.int .i64 x3) ∧ w'.cell? ⟨wb, wo + k * 7 + 4, none⟩ = some (.int .i64 x4) ∧ w'.cell? ⟨wb, wo + k * 7 + 5, none⟩ = some (.int .i64 x5) ∧ w'.cell? ⟨wb, wo + k * 7 + 6, none⟩ = some (.slice xa yl.length xc)) ∧ (w'.cell? ⟨nb, no' + k * 7, none⟩ = some (.int .i64 x0) ∧ w'.cell? ⟨nb, no' + k * 7 + 1, none⟩ = some (.int .i64 x1) ∧ w'.cell? ⟨nb, no' + k * 7 + 2, none⟩ = some (.int .i64 x2) ∧ w'.cell? ⟨nb, no' + k * 7 + 3, none⟩ = some (.int .i64 x3) ∧ w'.cell? ⟨nb, no' + k * 7 + 4, none⟩ = some (.int .i64 x4) ∧ w'.cell? ⟨nb, no' + k * 7 + 5, none⟩ = some (.int .i64 x5) ∧ w'.cell? ⟨nb, no' + k * 7 + 6, none⟩ = some (.slice ya yl.length yc)))
                (first | with_reducible exact HG.out wr.drew (Below.refl wr.heap.size wr).drew | with_reducible exact HG.out _ hB9 | go_keep)
                (first | (go_at_call 26; (with_reducible refine HSY.out.mono ?_); rintro e w9 ⟨rfl, hb9⟩; have hB9 : Below wr.heap.size wr w9 := (Below.refl wr.heap.size wr).drew.trans hb9))
              have HN9 := Lib.hid (HN.out.after hB9)
              clear hb9 hB9 HSY HG
              go_wp2_with fail
              go_roundw
              case rel => exact ⟨k + 1, by omega, by go_num, HN9.out⟩
              case measure => simp [intOf]; omega
            · obtain rfl : k = Z.length := by omega
              go_wp2_with fail
              go_loopw [16] (fun v wi => ∃ k : Nat, Z.length ≤ k ∧ k ≤ Z2.length ∧ v = .int .i64 k ∧ NowS w p b s (i + 1) aw cw Z L 0 op ae ce Z2 wi) (fun v _ => Z2.length - (intOf v).toNat)
              case atStart => exact ⟨Z.length, by omega, by omega, rfl, HN.out⟩
              case round =>
                obtain ⟨k, hkz, hk, rfl, hN⟩ := hrel
                have HN := Lib.hid hN
                clear hN
                by_cases hk2 : k < Z2.length
                · obtain ⟨nb, no', rfl, hnb, hnc⟩ := HN.out.sl.at7 (by omega)
                  have g2 := hnc k hk2
                  obtain ⟨e1, e2⟩ := HNw.out k hkz hk2
                  obtain ⟨⟨⟨x0, x1, x2, x3, x4, x5⟩, ya, yc, yl⟩, hY⟩ : ∃ E, En.at Z2 k = E := ⟨_, rfl⟩
                  rw [hY] at g2 e1 e2
                  dsimp only at e1 e2
                  subst e1 e2
                  clear hY hnc
                  obtain ⟨l', P', l0, l1, l2⟩ := HN.out.mid.per
                  obtain ⟨l3, l4, l5⟩ := l2 rfl
                  have bd := (Below.refl wr.heap.size wr).drew
                  have hpk := plocked_ok b s 30 l' x4 wr.drew (P'.after bd) (by omega) l3 l4
                  rw [decide_eq_false (by omega)] at hpk
                  have HPK := Lib.hid hpk
                  have HG : Hid (∀ W, Below wr.heap.size wr W → (W.cell? ⟨nb, no' + k * 7 + 3, none⟩ = some (.int .i64 x3) ∧ W.cell? ⟨nb, no' + k * 7 + 4, none⟩ = some (.int .i64 x4)) ∧ (W.cell? ⟨ab, ao + i * 4, none⟩ = some (.int .i64 x4) ∧ W.cell? ⟨ab, ao + i * 4 + 1, none⟩ = some (.int .i64 x3))) := fun W hW => by
                    have h1 := g2.after hW hnb
                    have h2 := HS.out W (HN.out.mid.be.trans (hW.mono HN.out.mid.be.size))
                    exact ⟨⟨h1.2.2.2.1, h1.2.2.2.2.1⟩, h2.1, h2.2.1⟩
                  have k1 : (0 : Int) ≤ (k : Int) := by omega
                  have k3 : (k : Int) < (L.length : Int) := by omega
                  clear g2 hpk P' l2 l3 l4 l5
                  go_wp2_with fail
                  go_region_held3 (fun W => (W.cell? ⟨nb, no' + k * 7 + 3, none⟩ = some (.int .i64 x3) ∧ W.cell? ⟨nb, no' + k * 7 + 4, none⟩ = some (.int .i64 x4)) ∧ (W.cell? ⟨ab, ao + i * 4, none⟩ = some (.int .i64 x4) ∧ W.cell? ⟨ab, ao + i * 4 + 1, none⟩ = some (.int .i64 x3)))
                    (first | with_reducible exact HG.out wr.drew (Below.refl wr.heap.size wr).drew | with_reducible exact HG.out _ hB9 | go_keep)
                    (first | (go_at_call 32; (with_reducible refine HPK.out.mono ?_); rintro e w9 ⟨rfl, hb9⟩; have hB9 : Below wr.heap.size wr w9 := (Below.refl wr.heap.size wr).drew.trans hb9))
                  have HN9 := Lib.hid (HN.out.after hB9)
                  clear hb9 hB9 HPK HG
                  go_wp2_with fail
                  go_roundw
                  case rel => exact ⟨k + 1, by omega, by omega, by go_num, HN9.out⟩
                  case measure => simp [intOf]; omega
                · obtain rfl : k = Z2.length := by omega
                  have z4 : decide ((Z2.length : Int) < (L.length : Int)) = false := decide_eq_false (by omega)
                  go_wp2_with fail
                  go_roundw
                  case rel => first | exact ⟨i + 1, by omega, by go_num, ae, ce, Z2, (by first | rfl | rw [hlen2]), HN.out.next (by have := hF.out.1; dsimp only at this; omega)⟩ | ((repeat apply Exists.intro); exact ⟨⟨i + 1, by omega, by go_num, ae, ce, Z2, (by first | rfl | rw [hlen2]), HN.out.next (by have := hF.out.1; dsimp only at this; omega)⟩, rfl⟩)
                  case measure => simp [intOf]; omega
        · have hl2 : Z2.length = Z.length := by rw [hlen2, hLL]; simp
          have t1 : decide ((Z2.length : Int) < (Z.length : Int)) = false := decide_eq_false (by omega)
          have t2 : (Z2.length : Int) = (Z.length : Int) := by omega
          have t3 : (L.length : Int) = (Z.length : Int) := by omega
          have t4 : (er == 0) = false := by simpa using hne
          have HLL : Hid (L = Z.map En.p ++ []) := by show _ = _; rw [hLL, List.append_nil]
          clear hLL
          obtain ⟨hc0, hc1, hc3⟩ := HS.out _ HN8.out.mid.be
          go_wp2_with fail
          clear hc0 hc1 hc3
          have HKs := Lib.hid (same_at HN8.out.eq HLL.out)
          go_loopw [15] (fun v wk => ∃ k : Nat, k ≤ Z.length ∧ v = .int .i64 k ∧ NowS w p b s (i + 1) aw cw Z L er op ae ce Z2 wk) (fun v _ => Z.length - (intOf v).toNat)
          case atStart => exact ⟨0, by omega, rfl, HN8.out⟩
          case round =>
            obtain ⟨k, hk, rfl, hN⟩ := hrel
            have HN := Lib.hid hN
            clear hN
            by_cases hkl : k < Z.length
            · obtain ⟨wb, wo, rfl, hwb, hwc⟩ := HN.out.mid.sl.at7 (by omega)
              obtain ⟨nb, no', rfl, hnb, hnc⟩ := HN.out.sl.at7 (by omega)
              have g1 := hwc k hkl
              have g2 := hnc k (by omega)
              have o1 := at_okE HN.out.mid.ok hkl
              have o2 := at_okE HN.out.ok (show k < Z2.length by omega)
              obtain ⟨e1, e2⟩ := HKs.out k hkl
              obtain ⟨⟨⟨x0, x1, x2, x3, x4, x5⟩, xa, xc, xl⟩, hX⟩ : ∃ E, En.at Z k = E := ⟨_, rfl⟩
              obtain ⟨⟨ys, ya, yc, yl⟩, hY⟩ : ∃ E, En.at Z2 k = E := ⟨_, rfl⟩
              rw [hX] at g1 o1 e1 e2
              rw [hY] at g2 o2 e1 e2
              dsimp only at e1 e2
              subst e1 e2
              clear hX hY hwc hnc
              have bd := (Below.refl wr.heap.size wr).drew
              have HG : Hid (∀ W, Below wr.heap.size wr W → (W.cell? ⟨wb, wo + k * 7, none⟩ = some (.int .i64 x0) ∧ W.cell? ⟨wb, wo + k * 7 + 1, none⟩ = some (.int .i64 x1) ∧ W.cell? ⟨wb, wo + k * 7 + 2, none⟩ = some (.int .i64 x2) ∧ W.cell? ⟨wb, wo + k * 7 + 3, none⟩ = some (.int .i64 x3) ∧ W.cell? ⟨wb, wo + k * 7 + 4, none⟩ = some (.int .i64 x4) ∧ W.cell? ⟨wb, wo + k * 7 + 5, none⟩ = some (.int .i64 x5) ∧ W.cell? ⟨wb, wo + k * 7 + 6, none⟩ = some (.slice xa yl.length xc)) ∧ (W.cell? ⟨nb, no' + k * 7, none⟩ = some (.int .i64 x0) ∧ W.cell? ⟨nb, no' + k * 7 + 1, none⟩ = some (.int .i64 x1) ∧ W.cell? ⟨nb, no' + k * 7 + 2, none⟩ = some (.int .i64 x2) ∧ W.cell? ⟨nb, no' + k * 7 + 3, none⟩ = some (.int .i64 x3) ∧ W.cell? ⟨nb, no' + k * 7 + 4, none⟩ = some (.int .i64 x4) ∧ W.cell? ⟨nb, no' + k * 7 + 5, none⟩ = some (.int .i64 x5) ∧ W.cell? ⟨nb, no' + k * 7 + 6, none⟩ = some (.slice ya yl.length yc))) := fun W hW => ⟨g1.after hW hwb, g2.after hW hnb⟩
              have hsy := same_yes ⟨x0, x1, x2, x3, x4, x5⟩ xa ya xc yc yl wr.drew (o1.after bd).ln (o2.after bd).ln (Nat.le_trans o1.few (by omega))
              dsimp only [entV] at hsy
              have HSY := Lib.hid hsy
              have k1 : (0 : Int) ≤ (k : Int) := by omega
              have k2 : (k : Int) < (Z.length : Int) := by omega
              have k3 : (k : Int) < (L.length : Int) := by omega
              clear g1 g2 o1 o2 hsy
              go_wp2_with fail
              go_region_held3 (fun w' => (w'.cell? ⟨wb, wo + k * 7, none⟩ = some (.int .i64 x0) ∧ w'.cell? ⟨wb, wo + k * 7 + 1, none⟩ = some (.int .i64 x1) ∧ w'.cell? ⟨wb, wo + k * 7 + 2, none⟩ = some (.int .i64 x2) ∧ w'.cell? ⟨wb, wo + k * 7 + 3, none⟩ = some (.int .i64 x3) ∧ w'.cell? ⟨wb, wo + k * 7 + 4, none⟩ = some (.int .i64 x4) ∧ w'.cell? ⟨wb, wo + k * 7 + 5, none⟩ = some (.int .i64 x5) ∧ w'.cell? ⟨wb, wo + k * 7 + 6, none⟩ = some (.slice xa yl.length xc)) ∧ (w'.cell? ⟨nb, no' + k * 7, none⟩ = some (.int .i64 x0) ∧ w'.cell? ⟨nb, no' + k * 7 + 1, none⟩ = some (.int .i64 x1) ∧ w'.cell? ⟨nb, no' + k * 7 + 2, none⟩ = some (.int .i64 x2) ∧ w'.cell? ⟨nb, no' + k * 7 + 3, none⟩ = some (.int .i64 x3) ∧ w'.cell? ⟨nb, no' + k * 7 + 4, none⟩ = some (.int .i64 x4) ∧ w'.cell? ⟨nb, no' + k * 7 + 5, none⟩ = some (.int .i64 x5) ∧ w'.cell? ⟨nb, no' + k * 7 + 6, none⟩ = some (.slice ya yl.length yc)))
                (first | with_reducible exact HG.out wr.drew (Below.refl wr.heap.size wr).drew | with_reducible exact HG.out _ hB9 | go_keep)
                (first | (go_at_call 26; (with_reducible refine HSY.out.mono ?_); rintro e w9 ⟨rfl, hb9⟩; have hB9 : Below wr.heap.size wr w9 := (Below.refl wr.heap.size wr).drew.trans hb9))
              have HN9 := Lib.hid (HN.out.after hB9)
              clear hb9 hB9 HSY HG
              go_wp2_with fail
              go_roundw
              case rel => exact ⟨k + 1, by omega, by go_num, HN9.out⟩
              case measure => simp [intOf]; omega
            · obtain rfl : k = Z.length := by omega
              go_wp2_with fail
              go_loopw [16] (fun v wi => ∃ k : Nat, Z.length ≤ k ∧ k ≤ Z2.length ∧ v = .int .i64 k ∧ NowS w p b s (i + 1) aw cw Z L er op ae ce Z2 wi) (fun v _ => Z2.length - (intOf v).toNat)
              case atStart => exact ⟨Z.length, by omega, by omega, rfl, HN.out⟩
              case round =>
                obtain ⟨k, hkz, hk, rfl, hN⟩ := hrel
                have HN := Lib.hid hN
                clear hN
                by_cases hk2 : k < Z2.length
                · exact absurd hk2 (by omega)
                · obtain rfl : k = Z2.length := by omega
                  have z4 : decide ((Z2.length : Int) < (L.length : Int)) = false := decide_eq_false (by omega)
                  go_wp2_with fail
                  go_roundw
                  case rel => first | exact ⟨i + 1, by omega, by go_num, ae, ce, Z2, (by first | rfl | rw [hlen2]), HN.out.next (by have := hF.out.1; dsimp only at this; omega)⟩ | ((repeat apply Exists.intro); exact ⟨⟨i + 1, by omega, by go_num, ae, ce, Z2, (by first | rfl | rw [hlen2]), HN.out.next (by have := hF.out.1; dsimp only at this; omega)⟩, rfl⟩)
                  case measure => simp [intOf]; omega
    · obtain rfl : i = ops.length := by omega
      have HE := Lib.hid hE
      clear hE
      obtain ⟨w0, hw0⟩ : ∃ w0, w0 = wr := ⟨_, rfl⟩
      subst hw0
      obtain ⟨wt, hwt⟩ : ∃ W, w0.alloc (.cells Tryd.zeroCells71 71) = W := ⟨_, rfl⟩
      have hbt : Below w0.heap.size w0 wt := by rw [← hwt]; exact (Below.refl _ _).alloc (Nat.le_refl _) _
      have kt : Blk wt w0.heap.size (timesV (Z.map En.p) 0) 71 := by rw [← hwt, ← times0]; exact Blk.new _ _ _
      have HT := Lib.hid kt
      have HBt := Lib.hid hbt
      have HWt := Lib.hid hwt
      have hZl : Z.length ≤ 120 := by have := HE.out.len; omega
      clear hwt hbt kt
      go_wp2_with fail
      rw [HWt.out]
      clear HWt
      go_loopw [18] (fun v wi => ∃ k : Nat, k ≤ Z.length ∧ v = .int .i64 k ∧ Blk wi w0.heap.size (timesV (Z.map En.p) k) 71 ∧ Below w0.heap.size w0 wi) (fun v _ => Z.length - (intOf v).toNat)
      case atStart => exact ⟨0, by omega, rfl, HT.out, HBt.out⟩
      case round =>
        obtain ⟨k, hk, rfl, hBk, hbl⟩ := hrel
        have HBk := Lib.hid hBk
        have HBl := Lib.hid hbl
        have HEk := Lib.hid (HE.out.after hbl)
        clear hBk hbl
        by_cases hkl : k < Z.length
        · obtain ⟨wb, wo, rfl, hwb, hwc⟩ := HEk.out.sl.at7 (by omega)
          have k2 : decide ((k : Int) < 200) = true := decide_eq_true (by omega)
          have g1 := hwc k hkl
          have o1 := at_okE HEk.out.ok hkl
          have hgk : (Z.map En.p)[k]? = some (En.at Z k).p := by rw [List.getElem?_map, List.getElem?_eq_getElem hkl]; unfold En.at; rw [List.getD_eq_getElem?_getD, List.getElem?_eq_getElem hkl]; rfl
          obtain ⟨⟨⟨x0, x1, x2, x3, x4, x5⟩, xa, xc, xl⟩, hX⟩ : ∃ E, En.at Z k = E := ⟨_, rfl⟩
          rw [hX] at g1 o1 hgk
          have c5 : wr.cell? ⟨wb, wo + k * 7 + 5, none⟩ = some (.int .i64 x5) := g1.2.2.2.2.2.1
          have i1 : (0 : Int) ≤ (k : Int) := by omega
          have i2 : (k : Int) < (Z.length : Int) := by omega
          by_cases h0 : x5 = -1
          · subst h0
            have hts : timesV (Z.map En.p) (k + 1) = timesV (Z.map En.p) k := times_same hgk (by intro r e; dsimp only [En.p] at e; omega)
            go_wp2_with fail
            go_roundw
            case rel => exact ⟨k + 1, by omega, by go_num, by rw [hts]; exact HBk.out, HBl.out⟩
            case measure => simp [intOf]; omega
          · obtain ⟨old, ho, hlt, hoR, hmir⟩ := HEk.out.wl.ref k _ hgk h0
            have hnn := (HEk.out.wl.refs hgk h0).1
            obtain ⟨ri, hri⟩ : ∃ ri : Nat, x5 = (ri : Int) := ⟨x5.toNat, by dsimp only [En.p] at hnn; omega⟩
            subst hri
            dsimp only [En.p] at ho hlt hmir
            rw [Int.toNat_natCast] at ho hlt
            have hri : ri < Z.length := by omega
            have hgo : (En.at Z ri).p = old := by
              rw [List.getElem?_map, List.getElem?_eq_getElem hri] at ho
              unfold En.at
              rw [List.getD_eq_getElem?_getD, List.getElem?_eq_getElem hri]
              exact Option.some.inj ho
            have g2 := hwc ri hri
            have o2 := at_okE HEk.out.ok hri
            have hck := HEk.out.wl.ck old (List.mem_of_getElem? ho)
            obtain ⟨⟨⟨y0, y1, y2, y3, y4, y5⟩, ya, yc, yl⟩, hY⟩ : ∃ E, En.at Z ri = E := ⟨_, rfl⟩
            rw [hY] at g2 o2 hgo
            subst hgo
            dsimp only [En.p] at hoR hmir hck
            subst hoR
            obtain ⟨tn1, tn2⟩ := times_next (k := k) (ri := ri) HEk.out.wl hgk rfl
            rw [if_pos (by omega)] at tn1
            have bd := (Below.refl wr.heap.size wr).drew
            have HG : Hid (∀ W, Below wr.heap.size wr W → (W.cell? ⟨wb, wo + ri * 7, none⟩ = some (.int .i64 y0) ∧ W.cell? ⟨wb, wo + ri * 7 + 1, none⟩ = some (.int .i64 y1) ∧ W.cell? ⟨wb, wo + ri * 7 + 2, none⟩ = some (.int .i64 y2) ∧ W.cell? ⟨wb, wo + ri * 7 + 3, none⟩ = some (.int .i64 y3) ∧ W.cell? ⟨wb, wo + ri * 7 + 4, none⟩ = some (.int .i64 y4) ∧ W.cell? ⟨wb, wo + ri * 7 + 5, none⟩ = some (.int .i64 (-1)) ∧ W.cell? ⟨wb, wo + ri * 7 + 6, none⟩ = some (.slice ya yl.length yc)) ∧ (W.cell? ⟨wb, wo + k * 7, none⟩ = some (.int .i64 x0) ∧ W.cell? ⟨wb, wo + k * 7 + 1, none⟩ = some (.int .i64 x1) ∧ W.cell? ⟨wb, wo + k * 7 + 2, none⟩ = some (.int .i64 x2) ∧ W.cell? ⟨wb, wo + k * 7 + 3, none⟩ = some (.int .i64 x3) ∧ W.cell? ⟨wb, wo + k * 7 + 4, none⟩ = some (.int .i64 x4) ∧ W.cell? ⟨wb, wo + k * 7 + 5, none⟩ = some (.int .i64 (ri : Int)) ∧ W.cell? ⟨wb, wo + k * 7 + 6, none⟩ = some (.slice xa xl.length xc))) := fun W hW => ⟨g2.after hW hwb, g1.after hW hwb⟩
            have hmi := mirrors_any ⟨⟨y0, y1, y2, y3, y4, -1⟩, yl⟩ ⟨⟨x0, x1, x2, x3, x4, (ri : Int)⟩, xl⟩ ya xa yc xc wr.drew (o2.after bd) (o1.after bd) hck
            rw [hmir] at hmi
            dsimp only [entV] at hmi
            have HMi := Lib.hid hmi
            have HTn := Lib.hid tn2
            have HTc := Lib.hid tn1
            have j1 : (0 : Int) ≤ (ri : Int) := by omega
            have j2 : (ri : Int) < (Z.length : Int) := by omega
            have j3 : decide ((k : Int) ≤ (ri : Int)) = false := decide_eq_false (by omega)
            have j4 : decide ((ri : Int) < 0) = false := decide_eq_false (by omega)
            have j5 : ((ri : Int) == -1) = false := by rw [beq_eq_false_iff_ne]; exact h0
            have j6 : (ri : Int) < 200 := by omega
            clear g1 g2 o1 o2 hck ho hmir hmi tn1 tn2 hY hgk hwc bd h0 hnn
            go_wp2_with fail
            clear c5
            obtain ⟨⟨q0, q1, q2, q3, q4, q5, q6⟩, r0, r1, r2, r3, r4, r5, r6⟩ := HG.out wr (Below.refl _ _)
            go_still_tail 24, (by kernel_rfl)
            clear q0 q1 q2 q3 q4 q5 q6 r0 r1 r2 r3 r4 r5 r6
            go_wp2_with fail
            with_reducible refine HMi.out.mono ?_
            rintro e w9 ⟨rfl, hb9⟩
            have hB9 : Below wr.heap.size wr w9 := (Below.refl wr.heap.size wr).drew.trans hb9
            have HB9 := Lib.hid (HBl.out.trans (hB9.mono HBl.out.size))
            have HK9 := Lib.hid (HBk.out.after hB9)
            have d0 : w9.cell? ⟨w0.heap.size, ri, none⟩ = some (.int .i64 0) := HK9.out.cell ri HTc.out
            have d1 : w9.frozen? ⟨w0.heap.size, ri, none⟩ = false := HK9.out.free ri
            clear hb9 hB9 HMi HG
            go_wp2_with fail
            go_roundw
            case rel => exact ⟨k + 1, by omega, by go_num, by rw [← HTn.out]; exact HK9.out.set ri _, HB9.out.trans (grown_below (grown_setCell w9 w0.heap.size ri _) HK9.out.lt)⟩
            case measure => simp [intOf]; omega
        · obtain rfl : k = Z.length := by omega
          obtain ⟨bm9, a9, cap9, E9, hL9, hE9⟩ := HEk.out.ex
          have hE9l : E9.length ≤ 200 := by have := congrArg List.length hE9; simp at this; omega
          have HSq := Lib.hid (lseq_ok p bm9 a9 cap9 E9 wr hL9 (by omega))
          have HL9 := Lib.hid hL9
          have HW9 := Lib.hid (show WL (E9.map En.p) by rw [hE9]; exact HEk.out.wl)
          clear hL9 hE9
          go_wp2_with fail
          with_reducible refine HSq.out.mono ?_
          rintro e w2 ⟨rfl, hb2⟩
          have HN2 := Lib.hid (nought_ok p bm9 a9 cap9 E9 (seqOf (E9.map En.p)) w2 (HL9.out.after hb2) HW9.out (by omega))
          have HB2 := Lib.hid (HEk.out.be.trans (hb2.mono HEk.out.be.size))
          clear hb2
          go_wp2_with fail
          with_reducible refine HN2.out.mono ?_
          rintro e w3 ⟨rfl, hb3⟩
          have HB3 := Lib.hid (HB2.out.trans (hb3.mono HB2.out.size))
          clear hb3
          go_wp2_with fail
          with_reducible refine (awake15 w3 (HR.out.after HB3.out)).mono ?_
          rintro e w4 ⟨rfl, hb4⟩
          go_wp2_with fail
          go_ret
          exact ⟨rfl, HB3.out.trans (hb4.mono HB3.out.size)⟩

end Go.Proofs.YtpinhomalmknjaaDoor
