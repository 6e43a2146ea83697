/- The law's tells. -/
import Derived.Test.YtmjgcenhgpkhiaaDoorBkE
namespace Go.Proofs.YtmjgcenhgpkhiaaDoor
open Go.RowKit Go.Sort Go.Shelf
set_option linter.unusedVariables false
set_option linter.unusedSimpArgs false
set_option maxRecDepth 100000

def Lv.fl (x : Lv) : Fl := ⟨x.d, x.c, x.a⟩
theorem lvs_fl {L : List EnP} {f : List Fl} (h : Bks L f) : ((lvs L).map Lv.fl).Nodup := nodup_on (nodup_of_map (lvs_nos L)) (fun x hx z hz e => one_live h.ky hx hz (by
  unfold Lv.fl at e
  simp only [Fl.mk.injEq] at e
  unfold Lv.ky
  rw [e.1, e.2.1]))
theorem lvs_len {L : List EnP} {f : List Fl} (h : Bks L f) : (lvs L).length = f.length := by
  have h1 := nodup_len _ f (lvs_fl h) (fun y hy => by
    obtain ⟨x, hx, rfl⟩ := List.mem_map.1 hy
    exact (h.me _).2 ⟨x, hx, rfl⟩)
  have h2 := nodup_len _ ((lvs L).map Lv.fl) (ordB_ok h.od).2.nodup (fun y hy => by
    obtain ⟨x, hx, e⟩ := (h.me y).1 hy
    exact List.mem_map.2 ⟨x, hx, e⟩)
  rw [List.length_map] at h1 h2
  omega
def mtF (y : Fl) (x : Lv) : Bool := decide (x.d = y.d ∧ x.c = y.c ∧ x.a = y.a)
theorem any_next {α : Type} {p : α → Bool} {l : List α} {k : Nat} {x : α} (h : l[k]? = some x) : (l.take (k + 1)).any p = ((l.take k).any p || p x) := by
  obtain ⟨hk, e⟩ := List.getElem?_eq_some_iff.1 h
  rw [List.take_succ_eq_append_getElem hk, e, List.any_append]
  simp
theorem sum_in {z : Int} (h : -9223372036854775808 ≤ z ∧ z ≤ 9223372036854775807) : sumA z = .tuple #[.int .i64 z, .int .i64 0] := by
  unfold sumA
  rw [if_pos (by unfold fitsI; simpa using h)]

set_option maxHeartbeats 16000000 in
theorem tells_ok (W : World) (p b s : Nat) (L : List EnP) (f : List Fl) (af : Option Addr) (cf : Nat) (V : World) (h : BkS W p b s L f V) (hl : L.length ≤ 200) (hf : SlG W 3 encW af cf f) (hfl : f.length ≤ 20) :
    Calls Tryd.prog 16 #[.pointer (some ⟨p, 0, none⟩), .slice af f.length cf] V fun e w' => e = .returned (.bool true) ∧ Below V.heap.size V w' := by
  obtain ⟨bm, a, cap, E, hE, hEL⟩ := h.lg
  have hEl : E.length = L.length := by rw [← hEL, List.length_map]
  have hll := lvs_len h.bk
  have hLi := llive_ok p bm a cap E 1 V hE (by omega) (by rw [hEL]; exact h.bk.wl)
  have H := Lib.hid h
  have HE := Lib.hid hE
  have HLi := Lib.hid hLi
  have HG := Lib.hid (hf.after h.be)
  have HEL := Lib.hid hEL
  have HEl := Lib.hid hEl
  have HLl := Lib.hid hll
  have HE8 : Hid (∀ e ∈ E, e.ls.length ≤ 100) := fun e he => by
    have := (check_nums (H.out.bk.wl.ck e.p (by rw [← HEL.out]; exact List.mem_map.2 ⟨e, he, rfl⟩))).2.2.2.2
    have h2 : e.ls.length ≤ 8 := this
    omega
  clear h hE hLi hf hEL hEl hll
  go_enter Tryd.func16, Tryd.ntmps16
  go_wp2_with fail
  with_reducible refine HLi.out.mono ?_
  intro e w1 he
  obtain ⟨Bc, Bk, rfl, hb1, hof⟩ := live_of he (by have := HEl.out; omega)
  rw [HEL.out] at hof
  have HOf := Lib.hid hof
  have HB1 := Lib.hid hb1
  clear he hof hb1
  go_wp2_with fail
  with_reducible refine HOf.out.mono ?_
  rintro e w2 ⟨a2, c2, rfl, hsl2, hb2⟩
  rw [show lvsP 2 (liveP L 1) = lvs L from rfl] at hsl2 ⊢
  have HB2 := Lib.hid (HB1.out.trans (hb2.mono HB1.out.size))
  have hck := check_ok16 a2 c2 (lvs L) w2 hsl2.g (by have := HLl.out; omega) (lv_wf H.out.bk (by omega))
  have HCk := Lib.hid hck
  have HS2 := Lib.hid hsl2
  rw [HLl.out] at HCk ⊢
  clear hck hsl2 hb2 HOf HLi
  go_wp2_with fail
  with_reducible refine HCk.out.mono ?_
  rintro e w3 ⟨rfl, hb3⟩
  rw [H.out.bk.ck]
  have HB3 := Lib.hid (HB2.out.trans (hb3.mono HB2.out.size))
  have HS3 := Lib.hid (HS2.out.after hb3)
  clear hb3 HS2 HCk
  go_wp2_with fail
  go_loopw [6] (fun i wr => ∃ k : Nat, k ≤ f.length ∧ i = .int .i64 (k : Int) ∧ Hid (Below w3.heap.size w3 wr)) (fun i _ => f.length - (intOf i).toNat)
  case atStart => exact ⟨0, by omega, rfl, Below.refl _ _⟩
  case round =>
    obtain ⟨k, hk, rfl, HQ⟩ := hrel
    by_cases hlt : k < f.length
    · obtain ⟨y, hy⟩ : ∃ x, f[k]'hlt = x := ⟨_, rfl⟩
      have hx : f[k]? = some y := by rw [← hy]; exact List.getElem?_eq_getElem hlt
      have hmem := List.mem_of_getElem? hx
      have HMay := Lib.hid (H.out.bk.ma y hmem)
      have HMem := Lib.hid hmem
      obtain ⟨b0, o0, rfl, _⟩ := HG.out.recs (by omega)
      obtain ⟨d, c, n⟩ := y
      have HCl : Hid (∀ Z, Below wr.heap.size wr Z → Z.cell? ⟨b0, o0 + k * 3, none⟩ = some (.int .i64 d) ∧ Z.cell? ⟨b0, o0 + k * 3 + 1, none⟩ = some (.int .i64 c) ∧ Z.cell? ⟨b0, o0 + k * 3 + 2, none⟩ = some (.int .i64 n)) := fun Z hZ => by
        have hXr : RecsAt Z (some ⟨b0, o0, none⟩) 3 encW f := RowsAt.after HG.out.recs ((HB3.out.trans (HQ.out.mono HB3.out.size)).trans (hZ.mono (by have h1 := HB3.out.size; have h2 := HQ.out.size; omega)))
        exact ⟨RecsAt.cell hXr rfl hlt hx (j := 0) rfl, RecsAt.cell hXr rfl hlt hx (j := 1) rfl, RecsAt.cell hXr rfl hlt hx (j := 2) rfl⟩
      have i1 : (0 : Int) ≤ (k : Int) := by omega
      have i2 : (k : Int) < (f.length : Int) := by omega
      obtain ⟨q0, q1, q2⟩ := HCl.out wr (Below.refl _ _)
      have hlt0 : b0 < wr.heap.size := World.block_lt_of_cell? wr _ q0
      have bd : Below wr.heap.size wr wr.drew := (Below.refl _ _).drew
      obtain ⟨p0, p1, p2⟩ := HCl.out _ bd
      clear hx hy hmem bd
      go_wp2_with fail
      go_region
      obtain ⟨w4, hw4⟩ : ∃ Z, (wr.alloc (.cells #[.int .i64 1, .int .i64 d, .int .i64 c] 23)).drew = Z := ⟨_, rfl⟩
      have hb4 : Below wr.heap.size wr w4 := by rw [← hw4]; exact ((Below.refl _ _).alloc (Nat.le_refl _) _).drew
      have K4 : Blk w4 wr.heap.size #[.int .i64 1, .int .i64 d, .int .i64 c] 23 := by rw [← hw4]; exact (Blk.new _ _ _).drew
      rw [hw4]
      have HB4 := Lib.hid hb4
      have HK4 := Lib.hid K4
      have hwa : wantAt f (d, c) = n := wantAt_in (ordB_ok H.out.bk.od).2 HMem.out
      have hsum := H.out.bk.su d c
      unfold sumT at hsum
      rw [hwa, ← HEL.out] at hsum
      have hEV : Below V.heap.size V wr := HB3.out.trans (HQ.out.mono HB3.out.size)
      have HEV := Lib.hid hEV
      have HT : Hid (∀ Z, Below wr.heap.size wr Z → ∀ pa : Int, Calls Tryd.prog 35 #[.pointer (some ⟨p, 0, none⟩), .agg #[.int .i64 1, .int .i64 d, .int .i64 c], .int .i64 pa] Z (SumEnd Z (sumQ (qTag ⟨1, d, c⟩) pa (E.map En.p)).sum)) := fun Z hZ pa => ltot_ok p bm a cap E pa 1 d c Z (HE.out.after (HEV.out.trans (hZ.mono HEV.out.size))) (by have := HEl.out; omega) HE8.out
      have hbdn := HMay.out.bd
      dsimp only at hbdn
      have hT2 := HT.out w4 HB4.out 2
      rw [hsum.1] at hT2
      unfold SumEnd at hT2
      rw [sum_in (by omega)] at hT2
      have HT2 := Lib.hid hT2
      have HT3 : Hid (∀ Z, Below wr.heap.size wr Z → Calls Tryd.prog 35 #[.pointer (some ⟨p, 0, none⟩), .agg #[.int .i64 1, .int .i64 d, .int .i64 c], .int .i64 3] Z (fun e w' => e = .returned (.tuple #[.int .i64 (-n), .int .i64 0]) ∧ Below Z.heap.size Z w')) := fun Z hZ => by
        have h3 := HT.out Z hZ 3
        rw [hsum.2] at h3
        unfold SumEnd at h3
        rw [sum_in (by omega)] at h3
        exact h3
      have t0 : w4.cell? ⟨wr.heap.size, 0, none⟩ = some (.int .i64 1) := K4.cell 0 rfl
      have t1 : w4.cell? ⟨wr.heap.size, 1, none⟩ = some (.int .i64 d) := K4.cell 1 rfl
      have t2 : w4.cell? ⟨wr.heap.size, 2, none⟩ = some (.int .i64 c) := K4.cell 2 rfl
      clear hw4 hb4 K4 hwa hsum hEV hT2 q0 q1 q2 p0 p1 p2 hlt0 HT
      go_wp2_with fail
      with_reducible refine HT2.out.mono ?_
      rintro e w5 ⟨rfl, hb5⟩
      clear t0 t1 t2
      have K5 := HK4.out.after hb5
      have t0 : w5.cell? ⟨wr.heap.size, 0, none⟩ = some (.int .i64 1) := K5.cell 0 rfl
      have t1 : w5.cell? ⟨wr.heap.size, 1, none⟩ = some (.int .i64 d) := K5.cell 1 rfl
      have t2 : w5.cell? ⟨wr.heap.size, 2, none⟩ = some (.int .i64 c) := K5.cell 2 rfl
      have HB5 := Lib.hid (HB4.out.trans (hb5.mono HB4.out.size))
      have HT5 := Lib.hid (HT3.out w5 HB5.out)
      clear K5 hb5 HT2 HT3
      go_wp2_with fail
      with_reducible refine HT5.out.mono ?_
      rintro e w6 ⟨rfl, hb6⟩
      have HB6 := Lib.hid (HB5.out.trans (hb6.mono HB5.out.size))
      have HS6 := Lib.hid (HS3.out.after (HQ.out.trans (HB6.out.mono HQ.out.size)))
      clear t0 t1 t2 hb6 HT5
      go_wp2_with fail
      obtain ⟨w7, hw7⟩ : ∃ w7, w7 = wr := ⟨_, rfl⟩
      subst hw7
      go_loopw [12, 13] (fun v j wi => ∃ m : Nat, m ≤ f.length ∧ j = .int .i64 (m : Int) ∧ v = .bool (((lvs L).take m).any (mtF ⟨d, c, n⟩)) ∧ Hid (Below w6.heap.size w6 wi)) (fun _ j _ => f.length - (intOf j).toNat)
      case atStart => exact ⟨0, by omega, rfl, by simp, Below.refl _ _⟩
      case round =>
        obtain ⟨m, hm, rfl, rfl, HI⟩ := hrel
        by_cases hlt2 : m < f.length
        · have hmL : m < (lvs L).length := by have := HLl.out; omega
          obtain ⟨x, hx1⟩ : ∃ x, (lvs L)[m]'hmL = x := ⟨_, rfl⟩
          have hx : (lvs L)[m]? = some x := by rw [← hx1]; exact List.getElem?_eq_getElem hmL
          have HN : Hid (((lvs L).take (m + 1)).any (mtF ⟨d, c, n⟩) = (((lvs L).take m).any (mtF ⟨d, c, n⟩) || mtF ⟨d, c, n⟩ x)) := any_next hx
          obtain ⟨b1, o1, rfl, _⟩ := HS6.out.recs (by omega)
          have hXr : RecsAt wr (some ⟨b1, o1, none⟩) 4 encL (lvs L) := RowsAt.after HS6.out.recs HI.out
          obtain ⟨q0, q1, q2⟩ := HCl.out wr (HB6.out.trans (HI.out.mono HB6.out.size))
          obtain ⟨xno, xd, xc, xa⟩ := x
          have s1 : wr.cell? ⟨b1, o1 + m * 4 + 1, none⟩ = some (.int .i64 xd) := RecsAt.cell hXr rfl hmL hx (j := 1) rfl
          have s2 : wr.cell? ⟨b1, o1 + m * 4 + 2, none⟩ = some (.int .i64 xc) := RecsAt.cell hXr rfl hmL hx (j := 2) rfl
          have s3 : wr.cell? ⟨b1, o1 + m * 4 + 3, none⟩ = some (.int .i64 xa) := RecsAt.cell hXr rfl hmL hx (j := 3) rfl
          have j1 : (0 : Int) ≤ (m : Int) := by omega
          have j2 : (m : Int) < (f.length : Int) := by omega
          obtain ⟨BT, hBT⟩ : ∃ B, ((lvs L).take m).any (mtF ⟨d, c, n⟩) = B := ⟨_, rfl⟩
          rw [hBT] at HN ⊢
          clear hx hx1 hXr hBT
          by_cases hB : BT = true
          · subst hB
            have HN2 : Hid (((lvs L).take (m + 1)).any (mtF ⟨d, c, n⟩) = true) := by show _ = _; rw [HN.out]; rfl
            go_wp2_with (go_quiet (fail))
            go_roundw
            case rel => exact ⟨m + 1, by omega, by go_num, by rw [HN2.out], HI.out.trans ((below_draws wr _).mono HI.out.size)⟩
            case measure => simp [intOf]; omega
          obtain rfl : BT = false := by simpa using hB
          clear hB
          by_cases e1 : xd = d
          rotate_left 1
          · have g1 : (xd == d) = false := by rw [beq_eq_false_iff_ne]; exact e1
            have HN2 : Hid (((lvs L).take (m + 1)).any (mtF ⟨d, c, n⟩) = false) := by show _ = _; rw [HN.out]; unfold mtF; simp [e1]
            clear e1
            go_wp2_with (go_quiet (fail))
            go_roundw
            case rel => exact ⟨m + 1, by omega, by go_num, by rw [HN2.out], HI.out.trans ((below_draws wr _).mono HI.out.size)⟩
            case measure => simp [intOf]; omega
          subst e1
          by_cases e2 : xc = c
          rotate_left 1
          · have g1 : (xc == c) = false := by rw [beq_eq_false_iff_ne]; exact e2
            have HN2 : Hid (((lvs L).take (m + 1)).any (mtF ⟨xd, c, n⟩) = false) := by show _ = _; rw [HN.out]; unfold mtF; simp [e2]
            clear e2
            go_wp2_with (go_quiet (fail))
            go_roundw
            case rel => exact ⟨m + 1, by omega, by go_num, by rw [HN2.out], HI.out.trans ((below_draws wr _).mono HI.out.size)⟩
            case measure => simp [intOf]; omega
          subst e2
          by_cases e3 : xa = n
          rotate_left 1
          · have g1 : (xa == n) = false := by rw [beq_eq_false_iff_ne]; exact e3
            have HN2 : Hid (((lvs L).take (m + 1)).any (mtF ⟨xd, xc, n⟩) = false) := by show _ = _; rw [HN.out]; unfold mtF; simp [e3]
            clear e3
            go_wp2_with (go_quiet (fail))
            go_roundw
            case rel => exact ⟨m + 1, by omega, by go_num, by rw [HN2.out], HI.out.trans ((below_draws wr _).mono HI.out.size)⟩
            case measure => simp [intOf]; omega
          subst e3
          have HN2 : Hid (((lvs L).take (m + 1)).any (mtF ⟨xd, xc, xa⟩) = true) := by show _ = _; rw [HN.out]; unfold mtF; simp
          go_wp2_with (go_quiet (fail))
          go_roundw
          case rel => exact ⟨m + 1, by omega, by go_num, by rw [HN2.out], HI.out.trans ((below_draws wr _).mono HI.out.size)⟩
          case measure => simp [intOf]; omega
        · obtain rfl : m = f.length := by omega
          have hany : ((lvs L).take f.length).any (mtF ⟨d, c, n⟩) = true := by
            rw [← HLl.out, List.take_length, List.any_eq_true]
            obtain ⟨x, hx, e⟩ := (H.out.bk.me _).1 HMem.out
            refine ⟨x, hx, ?_⟩
            simp only [Fl.mk.injEq] at e
            unfold mtF
            simpa using e
          rw [hany]
          have g3 : IntKind.i64.wrap (0 - n) = -n := by
            have hbdn := HMay.out.bd
            dsimp only at hbdn
            unfold IntKind.wrap
            simp [IntKind.signed, IntKind.bits]
            omega
          have g4 : IntKind.i64.wrap (-n) = -n := by
            have hbdn := HMay.out.bd
            dsimp only at hbdn
            unfold IntKind.wrap
            simp [IntKind.signed, IntKind.bits]
            omega
          obtain ⟨q0, q1, q2⟩ := HCl.out wr (HB6.out.trans (HI.out.mono HB6.out.size))
          clear hany
          go_wp2_with fail
          go_roundw
          case rel => exact ⟨k + 1, by omega, by go_num, HQ.out.trans ((HB6.out.trans (HI.out.mono HB6.out.size)).mono HQ.out.size)⟩
          case measure => simp [intOf]; omega
    · obtain rfl : k = f.length := by omega
      go_wp2_with fail
      go_ret
      exact ⟨rfl, HB3.out.trans (HQ.out.mono HB3.out.size)⟩

end Go.Proofs.YtmjgcenhgpkhiaaDoor
