/- Package adjust: Check. -/
import Derived.Test.YtmjgcenhgpkhiaaDoorAdG
import Derived.Deep.RegionHeld3
import Derived.BigQuiet
namespace Go.Proofs.YtmjgcenhgpkhiaaDoor
open Go.RowKit Go.Sort Go.Shelf
set_option linter.unusedVariables false
set_option linter.unusedSimpArgs false

def ckA (l : List Lv) : Int := if ∃ x ∈ l, x.a = 0 then 13 else 0
/-- Check's two sets. -/
structure CkRel (w0 wr : World) (bp bn j : Nat) (l : List Lv) : Prop where
  mp : MapAt OkPl wr bp (setM plV (setK ((l.take j).map Lv.ky)))
  mn : MapAt OkN16 wr bn (setM (.int .i64) (setK ((l.take j).map Lv.no)))
  turn : Turn [bp, bn] w0 wr
def CkEnd16 (w : World) (l : List Lv) (e : Ending) (w' : World) : Prop := e = .returned (.int .i64 (ckE l)) ∧ Below w.heap.size w w'
set_option maxHeartbeats 4000000 in
set_option maxRecDepth 100000 in
theorem check_ok16 (a : Option Addr) (cap : Nat) (l : List Lv) (w : World) (h : SlG w 4 encL a cap l) (hl : l.length ≤ 1000) (hwf : ∀ x ∈ l, (Lit.int .i64 x.no).wf = true) :
    Calls Tryd.prog 34 #[.slice a l.length cap] w (CkEnd16 w l) := by
  have hmm := @run_makeMap Tryd.prog
  have H := Lib.hid h
  have HWf := Lib.hid hwf
  obtain ⟨w0, hw0⟩ : ∃ W, (w.alloc (.map #[] 0)).alloc (.map #[] 0) = W := ⟨_, rfl⟩
  have hb0 : Below w.heap.size w w0 := by rw [← hw0]; exact ((Below.refl _ _).alloc (Nat.le_refl _) _).alloc (by simp) _
  have z0 : w0.heap.size = w.heap.size + 2 := by rw [← hw0]; simp
  have m0 : MapAt OkPl w0 w.heap.size [] := by rw [← hw0]; exact (MapAt.made OkPl w).after ((Below.refl _ _).alloc (Nat.le_refl _) _)
  have m1 : MapAt OkN16 w0 (w.heap.size + 1) [] := by
    rw [← hw0]
    have := MapAt.made OkN16 (w.alloc (.map #[] 0))
    rwa [World.size_alloc] at this
  have HRel0 : Hid (CkRel w0 w0 w.heap.size (w.heap.size + 1) 0 l) := ⟨by simpa [setK, setM] using m0, by simpa [setK, setM] using m1, Turn.refl _ _⟩
  have HB0 := Lib.hid hb0
  have HW0 := Lib.hid hw0
  clear h hwf hw0 hb0 m0 m1
  go_enter Tryd.func34, Tryd.ntmps34
  go_wp2_with fail
  rw [HW0.out]
  go_loopw [5, 12] (fun ev i wr => ∃ j : Nat, j ≤ l.length ∧ ev = .int .i64 (ckA (l.take j)) ∧ i = .int .i64 j ∧ Hid (CkRel w0 wr w.heap.size (w.heap.size + 1) j l)) (fun _ i _ => l.length - (intOf i).toNat)
  case atStart => exact ⟨0, by omega, by simp [ckA], rfl, HRel0.out⟩
  case round =>
    obtain ⟨j, hj, rfl, rfl, HQ⟩ := hrel
    by_cases hlt : j < l.length
    · have hx := List.getElem?_eq_getElem hlt
      obtain ⟨x, hy⟩ : ∃ x, l[j] = x := ⟨_, rfl⟩
      rw [hy] at hx
      have hTk : l.take (j + 1) = l.take j ++ [x] := by rw [List.take_succ_eq_append_getElem hlt, hy]
      have hxw : (Lit.int .i64 x.no).wf = true := HWf.out x (by rw [← hy]; exact List.getElem_mem _)
      have hS := H.out.after (HB0.out.trans (HQ.out.turn.below (by omega) (fun b hb => by simp at hb; omega)))
      rcases hS.sh with rfl | ⟨b, o, rfl, hbl⟩
      · exact absurd hlt (by simp)
      obtain ⟨xn, xd, xc, xa⟩ := x
      have p0 : wr.cell? ⟨b, o + j * 4, none⟩ = some (.int .i64 xn) := RecsAt.cell hS.recs rfl hlt hx (j := 0) rfl
      have p1 : wr.cell? ⟨b, o + j * 4 + 1, none⟩ = some (.int .i64 xd) := RecsAt.cell hS.recs rfl hlt hx (j := 1) rfl
      have p2 : wr.cell? ⟨b, o + j * 4 + 2, none⟩ = some (.int .i64 xc) := RecsAt.cell hS.recs rfl hlt hx (j := 2) rfl
      have p3 : wr.cell? ⟨b, o + j * 4 + 3, none⟩ = some (.int .i64 xa) := RecsAt.cell hS.recs rfl hlt hx (j := 3) rfl
      have i1 : (0 : Int) ≤ (j : Int) := by omega
      have i2 : (j : Int) < (l.length : Int) := by omega
      obtain ⟨w2, hw2⟩ : ∃ W, wr.alloc (.cells #[.int .i64 xn, .int .i64 xd, .int .i64 xc, .int .i64 xa] 62) = W := ⟨_, rfl⟩
      have hb2 : Below wr.heap.size wr w2 := by rw [← hw2]; exact (Below.refl _ _).alloc (Nat.le_refl _) _
      have kx : Blk w2 wr.heap.size #[.int .i64 xn, .int .i64 xd, .int .i64 xc, .int .i64 xa] 62 := by rw [← hw2]; exact Blk.new _ _ _
      have HTk := Lib.hid hTk
      have HXw := Lib.hid hxw
      have HB2 := Lib.hid hb2
      have HKX := Lib.hid kx
      have HW2 := Lib.hid hw2
      have zr := HQ.out.turn.size
      clear hx hy hTk hxw hS hw2 hb2 kx
      go_wp2_with fail
      rw [HW2.out]
      refine wp_region_final (fun W => W.cell? ⟨wr.heap.size, 0, none⟩ = some (.int .i64 xn) ∧ W.cell? ⟨wr.heap.size, 1, none⟩ = some (.int .i64 xd) ∧ W.cell? ⟨wr.heap.size, 2, none⟩ = some (.int .i64 xc)) 10 (by kernel_rfl) ?_
      have bd : Below w2.heap.size w2 w2.drew := (Below.refl _ _).drew
      obtain ⟨wq, hwq⟩ : ∃ W, w2.drew = W := ⟨_, rfl⟩
      rw [hwq] at bd ⊢
      clear hwq
      have kq := HKX.out.after bd
      have hSd : wq.cell? ⟨wr.heap.size, 0, none⟩ = some (.int .i64 xn) ∧ wq.cell? ⟨wr.heap.size, 1, none⟩ = some (.int .i64 xd) ∧ wq.cell? ⟨wr.heap.size, 2, none⟩ = some (.int .i64 xc) := ⟨kq.cell 0 rfl, kq.cell 1 rfl, kq.cell 2 rfl⟩
      refine fT_take (i := 0) (v := ?_) rfl (by kernel_rfl) (fun _ _ _ h => h) (by rfl) hSd ?_ ?_
      rotate_left 1
      · intro wS hSw
        obtain ⟨s1, s2, s3⟩ := hSw
        go_simp
        try with_reducible rfl
      try simp only [Act.put, List.setIfInBounds_toArray, List.set_cons_zero, List.set_cons_succ]
      refine fT_take (i := 1) (v := ?_) rfl (by kernel_rfl) (fun _ _ _ h => h) (by rfl) hSd ?_ ?_
      rotate_left 1
      · intro wS hSw
        obtain ⟨s1, s2, s3⟩ := hSw
        go_simp
        try with_reducible rfl
      try simp only [Act.put, List.setIfInBounds_toArray, List.set_cons_zero, List.set_cons_succ]
      refine fT_take (i := 2) (v := ?_) rfl (by kernel_rfl) (fun _ _ _ h => h) (by rfl) hSd ?_ ?_
      rotate_left 1
      · intro wS hSw
        obtain ⟨s1, s2, s3⟩ := hSw
        go_simp
        try with_reducible rfl
      try simp only [Act.put, List.setIfInBounds_toArray, List.set_cons_zero, List.set_cons_succ]
      refine fT_take (i := 3) (v := ?_) rfl (by kernel_rfl) (fun _ _ _ h => h) (by rfl) hSd ?_ ?_
      rotate_left 1
      · intro wS hSw
        obtain ⟨s1, s2, s3⟩ := hSw
        go_simp
        try with_reducible rfl
      try simp only [Act.put, List.setIfInBounds_toArray, List.set_cons_zero, List.set_cons_succ]
      refine fT_take (i := 4) (v := ?_) rfl (by kernel_rfl) (fun _ _ _ h => h) (by rfl) hSd ?_ ?_
      rotate_left 1
      · intro wS hSw
        obtain ⟨s1, s2, s3⟩ := hSw
        go_simp
        try with_reducible rfl
      try simp only [Act.put, List.setIfInBounds_toArray, List.set_cons_zero, List.set_cons_succ]
      refine fT_take (i := 5) (v := ?_) rfl (by kernel_rfl) (fun _ _ _ h => h) (by rfl) hSd ?_ ?_
      rotate_left 1
      · intro wS hSw
        obtain ⟨s1, s2, s3⟩ := hSw
        go_simp
        try with_reducible rfl
      try simp only [Act.put, List.setIfInBounds_toArray, List.set_cons_zero, List.set_cons_succ]
      refine fT_take (i := 6) (v := ?_) rfl (by kernel_rfl) (fun _ _ _ h => h) (by rfl) hSd ?_ ?_
      rotate_left 1
      · intro wS hSw
        obtain ⟨s1, s2, s3⟩ := hSw
        go_simp
        try with_reducible rfl
      try simp only [Act.put, List.setIfInBounds_toArray, List.set_cons_zero, List.set_cons_succ]
      refine fT_take (i := 7) (v := ?_) rfl (by kernel_rfl) (fun _ _ _ h => h) (by rfl) hSd ?_ ?_
      rotate_left 1
      · intro wS hSw
        obtain ⟨s1, s2, s3⟩ := hSw
        go_simp
        try with_reducible rfl
      try simp only [Act.put, List.setIfInBounds_toArray, List.set_cons_zero, List.set_cons_succ]
      refine fT_take (i := 8) (v := ?_) rfl (by kernel_rfl) (fun _ _ _ h => h) (by rfl) hSd ?_ ?_
      rotate_left 1
      · intro wS hSw
        obtain ⟨s1, s2, s3⟩ := hSw
        go_simp
        try with_reducible rfl
      try simp only [Act.put, List.setIfInBounds_toArray, List.set_cons_zero, List.set_cons_succ]
      refine wpAnyF_next (i := 9) rfl (by kernel_rfl) (fun K hK => ?_)
      rw [if_pos (show Region.wanted _ _ = true from rfl)]
      refine wp_mapstore _ _ _ 108 rfl keyP Tryd.underlying108 rfl ((HQ.out.mp.after HB2.out).after bd) (plV (xd, xc)) (.bool true) rfl rfl ⟨_, rfl⟩ ?_
      intro w3 hm3 hg3 hs3
      have zq := bd.size
      have z2 := HB2.out.size
      have kx3 := kq.grown hg3 (fun e => by simp only [Option.some.injEq] at e; omega)
      have hn3 := ((HQ.out.mn.after HB2.out).after bd).kept hg3 (fun e => by simp only [Option.some.injEq] at e; omega)
      have hS3 : w3.cell? ⟨wr.heap.size, 0, none⟩ = some (.int .i64 xn) ∧ w3.cell? ⟨wr.heap.size, 1, none⟩ = some (.int .i64 xd) ∧ w3.cell? ⟨wr.heap.size, 2, none⟩ = some (.int .i64 xc) := ⟨kx3.cell 0 rfl, kx3.cell 1 rfl, kx3.cell 2 rfl⟩
      refine hK.out _ _ (.inr hS3) ?_
      clear hK K
      try simp only [Act.put, List.setIfInBounds_toArray, List.set_cons_zero, List.set_cons_succ]
      refine wpAnyF_next (i := 10) rfl (by kernel_rfl) (fun K hK => ?_)
      rw [if_pos (show Region.wanted _ _ = true from rfl)]
      refine wp_mapstore _ _ _ 73 rfl keyN16 Tryd.underlying73 rfl hn3 (.int .i64 xn) (.bool true) rfl rfl ⟨_, rfl, HXw.out⟩ ?_
      intro w4 hm4 hg4 hs4
      have kx4 := kx3.grown hg4 (fun e => by simp only [Option.some.injEq] at e; omega)
      have hp4 := hm3.kept hg4 (fun e => by simp only [Option.some.injEq] at e; omega)
      refine hK.out _ _ (.inl rfl) ?_
      clear hK K
      try simp only [Act.put, List.setIfInBounds_toArray, List.set_cons_zero, List.set_cons_succ]
      refine wpAnyF_done (by kernel_rfl) ?_ _
      have HQ4 : Hid (CkRel w0 w4 w.heap.size (w.heap.size + 1) (j + 1) l) := by
        refine ⟨?_, ?_, ?_⟩
        · rw [HTk.out, List.map_append, List.map_singleton, setM_snoc plV (fun _ _ => plV_inj)]
          exact hp4
        · rw [HTk.out, List.map_append, List.map_singleton, setM_snoc (.int .i64) int_inj]
          exact hm4
        · exact (HQ.out.turn.trans (Turn.of_below (HB2.out.trans (bd.mono z2)))).trans ((Turn.of_grown hg3 (by simp)).trans (Turn.of_grown hg4 (by simp)))
      have c3 : w4.cell? ⟨wr.heap.size, 3, none⟩ = some (.int .i64 xa) := kx4.cell 3 rfl
      clear kx3 hn3 hS3 hm3 hg3 hs3 kx4 hp4 hm4 hg4 hs4 hSd kq bd HQ HB2 HKX HW2 p0 p1 p2 p3
      by_cases ha : xa = 0
      · subst ha
        have HCk : Hid (ckA (l.take (j + 1)) = 13) := by
          show _ = _
          rw [HTk.out]
          unfold ckA
          rw [if_pos ⟨_, List.mem_append.2 (.inr (List.mem_singleton.2 rfl)), rfl⟩]
        go_wp2_with fail
        go_roundw
        case rel => exact ⟨j + 1, by omega, by rw [HCk.out], by go_num, HQ4⟩
        case measure => simp [intOf]; omega
      · have ea : (xa == 0) = false := by rw [beq_eq_false_iff_ne]; exact ha
        have HCk : Hid (ckA (l.take (j + 1)) = ckA (l.take j)) := by
          show _ = _
          rw [HTk.out]
          unfold ckA
          congr 1
          simp only [List.mem_append, List.mem_singleton, eq_iff_iff]
          constructor
          · rintro ⟨y, hy | rfl, e⟩
            · exact ⟨y, hy, e⟩
            · exact absurd e ha
          · rintro ⟨y, hy, e⟩; exact ⟨y, .inl hy, e⟩
        clear ha
        go_wp2_with fail
        go_roundw
        case rel => exact ⟨j + 1, by omega, by rw [HCk.out], by go_num, HQ4⟩
        case measure => simp [intOf]; omega
    · obtain rfl : j = l.length := by omega
      have hQ := HQ.out
      have hbr : Below w.heap.size w wr := HB0.out.trans (hQ.turn.below (by omega) (by simp))
      have zr := hQ.turn.size
      have hSl := H.out.after hbr
      have HC := Lib.hid (cont_ok 48 #[] (enters_of Tryd.func48 (by kernel_rfl) rfl) (fun x => decide (x.no < 0)) a cap l wr hSl (fun W x hW => (pred_ok x W).mono fun e w' h => ⟨h.1, hW.trans (h.2.mono hW.size)⟩) hl)
      rw [List.take_length]
      have hmp := hQ.mp
      have hmn := hQ.mn
      rw [List.take_length] at hmp hmn
      have HMp := Lib.hid hmp
      have HMn := Lib.hid hmn
      have HBr := Lib.hid hbr
      clear hQ HQ hbr hSl hmp hmn
      go_wp2_with fail
      with_reducible refine HC.out.mono ?_
      rintro e w5 ⟨rfl, hb5⟩
      have hmp := HMp.out.after hb5
      have hmn := HMn.out.after hb5
      have hb6 := HBr.out.trans (hb5.mono HBr.out.size)
      have hp1 := setK_lt (l.map Lv.ky)
      have hp2 := (setK_ok (l.map Lv.ky)).2.2.1
      have hn1 := setK_lt (l.map Lv.no)
      have hn2 := (setK_ok (l.map Lv.no)).2.2.1
      rw [List.length_map] at hp1 hp2 hn1 hn2
      have hlp := fun ty => MapAt.len (P := Tryd.prog) w5 Tryd.underlying108 hmp ty
      have hln := fun ty => MapAt.len (P := Tryd.prog) w5 Tryd.underlying73 hmn ty
      rw [show (setM plV (setK (l.map Lv.ky))).length = (setK (l.map Lv.ky)).length from List.length_map _] at hlp
      rw [show (setM (.int .i64) (setK (l.map Lv.no))).length = (setK (l.map Lv.no)).length from List.length_map _] at hln
      obtain ⟨np, hnp⟩ : ∃ n, (setK (l.map Lv.ky)).length = n := ⟨_, rfl⟩
      obtain ⟨nn, hnn⟩ : ∃ n, (setK (l.map Lv.no)).length = n := ⟨_, rfl⟩
      rw [hnp] at hp1 hp2 hlp
      rw [hnn] at hn1 hn2 hln
      have HP1 := Lib.hid hp1
      have HN1 := Lib.hid hn1
      have HB6 := Lib.hid hb6
      clear hnp hnn hp1 hn1 hmp hmn hb6 hb5 HMp HMn
      cases hv : l.any fun x => decide (x.no < 0) with
      | true =>
        have hE : ckE l = 10 := by
          obtain ⟨x, hx, e⟩ := List.any_eq_true.1 hv
          unfold ckE
          rw [if_pos ⟨x, hx, by simpa using e⟩]
        have HF : Hid (CkEnd16 w l (.returned (.int .i64 10)) w5) := ⟨by rw [hE], HB6.out⟩
        clear hv hE
        go_wp2_with fail
        go_ret
        exact HF.out
      | false =>
        have hno : ¬ ∃ x ∈ l, x.no < 0 := fun ⟨x, hx, e⟩ => by
          have := List.any_eq_false.1 hv x hx
          simp at this
          omega
        by_cases hz : ∃ x ∈ l, x.a = 0
        · have hA : ckA l = 13 := by unfold ckA; rw [if_pos hz]
          have hE : ckE l = 13 := by unfold ckE; rw [if_neg hno, if_pos hz]
          have HF : Hid (CkEnd16 w l (.returned (.int .i64 13)) w5) := ⟨by rw [hE], HB6.out⟩
          rw [hA]
          clear hv hE hA hno hz
          go_wp2_with fail
          go_ret
          exact HF.out
        · have hA : ckA l = 0 := by unfold ckA; rw [if_neg hz]
          rw [hA]
          by_cases hN1 : (l.map Lv.ky).Nodup
          · have d1 : decide ((np : Int) < (l.length : Int)) = false := decide_eq_false (by have := mt HP1.out.1 (fun h => h hN1); omega)
            have d1' : decide (np < l.length) = false := decide_eq_false (by have := mt HP1.out.1 (fun h => h hN1); omega)
            by_cases hN2 : (l.map Lv.no).Nodup
            · have d2 : decide ((nn : Int) < (l.length : Int)) = false := decide_eq_false (by have := mt HN1.out.1 (fun h => h hN2); omega)
              have d2' : decide (nn < l.length) = false := decide_eq_false (by have := mt HN1.out.1 (fun h => h hN2); omega)
              have hE : ckE l = 0 := by unfold ckE; rw [if_neg hno, if_neg hz, if_pos ⟨hN1, hN2⟩]
              have HF : Hid (CkEnd16 w l (.returned (.int .i64 0)) w5) := ⟨by rw [hE], HB6.out⟩
              clear hv hE hA hno hz hN1 hN2
              go_wp2_with fail
              go_ret
              exact HF.out
            · have d2 : decide ((nn : Int) < (l.length : Int)) = true := decide_eq_true (by have := HN1.out.2 hN2; omega)
              have d2' : decide (nn < l.length) = true := decide_eq_true (by have := HN1.out.2 hN2; omega)
              have hE : ckE l = 17 := by unfold ckE; rw [if_neg hno, if_neg hz, if_neg (fun h => hN2 h.2)]
              have HF : Hid (CkEnd16 w l (.returned (.int .i64 17)) w5) := ⟨by rw [hE], HB6.out⟩
              clear hv hE hA hno hz hN1 hN2
              go_wp2_with fail
              go_ret
              exact HF.out
          · have d1 : decide ((np : Int) < (l.length : Int)) = true := decide_eq_true (by have := HP1.out.2 hN1; omega)
            have d1' : decide (np < l.length) = true := decide_eq_true (by have := HP1.out.2 hN1; omega)
            have hE : ckE l = 17 := by unfold ckE; rw [if_neg hno, if_neg hz, if_neg (fun h => hN1 h.1)]
            have HF : Hid (CkEnd16 w l (.returned (.int .i64 17)) w5) := ⟨by rw [hE], HB6.out⟩
            clear hv hE hA hno hz hN1
            go_wp2_with fail
            go_ret
            exact HF.out

end Go.Proofs.YtmjgcenhgpkhiaaDoor
