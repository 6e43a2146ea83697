/- The statement AgendaThere: the walk. -/
import Derived.Test.YtgcncnmkfpfccaaAgX
namespace Go.Proofs.Ytgcncnmkfpfccaa
open Go.RowKit Go.Sort Go.Shelf
set_option linter.unusedVariables false
set_option linter.unusedSimpArgs false

structure ThRel (w wr : World) (B bm tb j n : Nat) : Prop where
  ex : ∃ S, AgX wr w.heap.size B bm S (n : Int) (fun b => b = tb) ∧ S.length ≤ j ∧ ThAt wr tb (HasN S)
  nj : n ≤ j
  bel : Below w.heap.size w wr
set_option maxHeartbeats 8000000 in
set_option maxRecDepth 100000 in
theorem there_law (a : Option Addr) (cap : Nat) (l : List Oq) (hl : l.length ≤ 9223372036854775807) (w : World) (h : OpsAt w a l) :
    Calls Try.prog 5 #[.slice a l.length cap] w (TrueEnd w) := by
  have HR := Lib.hid h
  clear h
  go_enter Try.func5, Try.ntmps5
  go_wp2_with fail
  with_reducible refine (new_x w).mono ?_
  rintro e w1 ⟨B, bm, rfl, hA1, hb1⟩
  have HA1 := Lib.hid hA1
  have HB1 := Lib.hid hb1
  clear hA1 hb1
  by_cases h60 : 60 < l.length
  · have h60' : decide (60 < l.length) = true := decide_eq_true h60
    have h61' : decide (60 < (l.length : Int)) = true := decide_eq_true (by omega)
    clear h60
    go_wp2_with fail
    with_reducible refine (awake_ok11 _).mono ?_
    rintro e w3 ⟨rfl, hb3⟩
    go_wp2_with fail
    go_ret
    exact ⟨rfl, HB1.out.trans (hb3.mono HB1.out.size)⟩
  have h61' : decide (60 < (l.length : Int)) = false := decide_eq_false (by omega)
  have h60' : l.length ≤ 60 := by omega
  clear h60
  go_wp2_with fail
  have z1 := HB1.out.size
  obtain ⟨tb, htb⟩ : ∃ tb, w1.heap.size = tb := ⟨_, rfl⟩
  rw [htb]
  go_loopw [5, 6] (fun nv i wr => ∃ j n : Nat, j ≤ l.length ∧ nv = .int .i64 n ∧ i = .int .i64 j ∧ Hid (ThRel w wr B bm tb j n)) (fun _ i _ => l.length - (intOf i).toNat)
  case atStart =>
    refine ⟨0, 0, by omega, rfl, rfl, ⟨⟨[], HA1.out.grow ((Below.refl _ _).alloc (Nat.le_refl _) _) (fun b hb => .inr ⟨by omega, by rw [World.size_alloc]; omega⟩), by simp, ?_⟩, by omega, HB1.out.trans (((Below.refl _ _).alloc (Nat.le_refl _) _).mono HB1.out.size)⟩⟩
    rw [← htb]
    exact ThAt.new _ _ _ (by kernel_rfl)
  case round =>
    obtain ⟨j, n, hj, rfl, rfl, HRel⟩ := hrel
    by_cases hlt : j < l.length
    · have hx := List.getElem?_eq_getElem hlt
      obtain ⟨x, hy⟩ : ∃ x, l[j] = x := ⟨_, rfl⟩
      have hxo : x.Ok := by rw [← hy]; exact HR.out.2 _ (List.getElem_mem _)
      rw [hy] at hx
      have HX := Lib.hid hxo
      have HXj := Lib.hid hx
      have hRr : RecsAt wr a 3 encO l := RowsAt.after HR.out.1 HRel.out.bel
      obtain ⟨b, o, rfl, _⟩ := hRr (by omega)
      obtain ⟨xa, xd, xn⟩ := x
      have t0 : wr.cell? ⟨b, o + j * 3, none⟩ = some (.int .i64 xa) := RecsAt.cell hRr rfl hlt hx (j := 0) rfl
      have t1 : wr.cell? ⟨b, o + j * 3 + 1, none⟩ = some (.int .i64 xd) := RecsAt.cell hRr rfl hlt hx (j := 1) rfl
      have t2 : wr.cell? ⟨b, o + j * 3 + 2, none⟩ = some (.int .i64 xn) := RecsAt.cell hRr rfl hlt hx (j := 2) rfl
      clear hx hRr hy hxo
      have i1 : (0 : Int) ≤ (j : Int) := by omega
      have i2 : (j : Int) < (l.length : Int) := by omega
      have hnj : n < 61 := by have := HRel.out.nj; omega
      have HNJ := Lib.hid HRel.out.nj
      have HBr := Lib.hid HRel.out.bel
      obtain ⟨S, hA, hS, hT⟩ := HRel.out.ex
      have HC := Lib.hid (does_x xa xd xn HX.out.2.2 (by omega) (by omega) HBr.out.size hA)
      have HS := Lib.hid hS
      have HT := Lib.hid hT
      have HA := Lib.hid hA
      clear hA hS hT HRel
      go_wp2_with fail
      with_reducible refine HC.out.mono ?_
      rintro e w4 ⟨rfl, hE, hk, hb4⟩
      have hT4 := hk.th HT.out rfl
      have hB4 := HBr.out.trans hb4
      have hR4 : RecsAt w4 (some ⟨b, o, none⟩) 3 encO l := RowsAt.after HR.out.1 hB4
      obtain ⟨⟨⟨vd, vn, vt⟩, ev⟩, hv⟩ : ∃ v, opV S n xa xd xn = v := ⟨_, rfl⟩
      rw [hv]
      have HV := Lib.hid hv
      unfold opR
      dsimp only [encI]
      obtain ⟨w5, hw5⟩ : ∃ W, w4.alloc (.cells #[.int .i64 vd, .int .i64 vn, .int .i64 vt] 31) = W := ⟨_, rfl⟩
      have hb5 : Below w4.heap.size w4 w5 := by rw [← hw5]; exact (Below.refl _ _).alloc (Nat.le_refl _) _
      have KY : Blk w5 w4.heap.size #[.int .i64 vd, .int .i64 vn, .int .i64 vt] 31 := by rw [← hw5]; exact Blk.new _ _ _
      have y1 : w5.cell? ⟨w4.heap.size, 1, none⟩ = some (.int .i64 vn) := KY.cell 1 rfl
      have HW5 := Lib.hid hw5
      have hT5 := hT4.after hb5
      have HT5 := Lib.hid hT5
      have HE5 := Lib.hid (hE.after hb5)
      have HB5 := Lib.hid (hB4.trans (hb5.mono hB4.size))
      have hR5 : RecsAt w5 (some ⟨b, o, none⟩) 3 encO l := RowsAt.after hR4 hb5
      have u0 : w5.cell? ⟨b, o + j * 3, none⟩ = some (.int .i64 xa) := RecsAt.cell hR5 rfl hlt HXj.out (j := 0) rfl
      have HS5 : Hid ((opS S n xa xd xn).length ≤ j + 1) := show _ ≤ _ from by have := opS_len S n xa xd xn; have := HS.out; omega
      clear hE hk hb4 hT4 hB4 hR4 hR5 hv hb5 KY HC HBr t0 t1 t2 HS
      by_cases hev : ev = 0
      case neg =>
        have hev' : (ev == 0) = false := by rw [beq_eq_false_iff_ne]; exact hev
        have hkp := op_keep (S := S) (N := n) (a := xa) (d := xd) (n := xn) (by rw [HV.out]; exact hev)
        have HRel' : Hid (ThRel w w5 B bm tb (j + 1) n) := ⟨⟨_, by have := HE5.out; rw [hkp.2] at this; exact this, HS5.out, by rw [hkp.1]; exact HT5.out⟩, by have := HNJ.out; omega, HB5.out⟩
        rw [← hw5] at u0 y1
        clear hT5 hw5 hkp hev
        go_wp2_with fail
        rw [HW5.out]
        go_roundw
        case rel => exact ⟨j + 1, n, by omega, rfl, by go_num, HRel'⟩
        case measure => simp [intOf]; omega
      subst hev
      by_cases ha0 : xa = 0
      · subst ha0
        have hp := op_put (S := S) (N := n) (d := xd) (n := xn) (by rw [HV.out]) HA.out.ra HA.out.no
        have e := HV.out.symm.trans hp.1
        simp only [Prod.mk.injEq, It.mk.injEq, and_true] at e
        obtain ⟨rfl, rfl, rfl⟩ := e
        obtain ⟨bb, hbb⟩ : ∃ bb : Bool, (bb = true ↔ HasN S (n : Int)) := ⟨decide (HasN S (n : Int)), by simp⟩
        have c0 := hT5.cell hnj hbb
        have f0 := hT5.free n
        obtain ⟨w6, hw6⟩ : ∃ W, w5.setCell ⟨tb, n, none⟩ (.bool true) = W := ⟨_, rfl⟩
        have hg : Turn [tb] w5 w6 := by rw [← hw6]; exact Turn.of_grown (grown_setCell _ _ _ _) (by simp)
        have HRel' : Hid (ThRel w w6 B bm tb (j + 1) (n + 1)) := by
          refine ⟨⟨_, ?_, HS5.out, ?_⟩, by have := HNJ.out; omega, HB5.out.trans (hg.below HB5.out.size (fun b hb => by simp at hb; omega))⟩
          · rw [← hw6, Int.natCast_add, Int.natCast_one, ← hp.2.1]
            exact HE5.out.store rfl _
          · rw [← hw6]
            exact HT5.out.set n hnj true (iff_of_true rfl ((hp.2.2 _).2 (.inr rfl))) (fun i hi => ((hp.2.2 _).trans (or_iff_left (by omega))).symm)
        have i3 : (0 : Int) ≤ (n : Int) := by omega
        have i4 : (n : Int) < 61 := by omega
        have g1 : decide ((60 : Int) < (n : Int)) = false := decide_eq_false (by have := HNJ.out; omega)
        have g2 : decide (60 < n) = false := decide_eq_false (by have := HNJ.out; omega)
        have HW6 := Lib.hid hw6
        rw [← hw5] at u0 y1 c0 f0
        clear hT5 hw5 hw6 hg hp hbb
        go_wp2_with fail
        rw [HW5.out, HW6.out]
        go_roundw
        case rel => exact ⟨j + 1, n + 1, by omega, by go_num, by go_num, HRel'⟩
        case measure => simp [intOf]; omega
      have a0 : (xa == 0) = false := by rw [beq_eq_false_iff_ne]; exact ha0
      by_cases ha1 : xa = 1
      · subst ha1
        obtain ⟨x, hx, ho, hN, hi⟩ := op_off (S := S) (N := n) (d := xd) (n := xn) (.inl rfl) (by rw [HV.out]) HA.out.nos
        have e := HV.out.symm.trans ho
        simp only [Prod.mk.injEq, and_true] at e
        subst e
        have hb := HA.out.no _ hx
        dsimp only at hb hi
        obtain ⟨k, rfl⟩ : ∃ k : Nat, vn = (k : Int) := ⟨vn.toNat, by omega⟩
        have hk : k < n := by omega
        have c0 : w5.cell? ⟨tb, k, none⟩ = some (.bool true) := hT5.cell (by omega) (iff_of_true rfl ⟨_, hx, rfl⟩)
        have f0 := hT5.free k
        obtain ⟨w6, hw6⟩ : ∃ W, w5.setCell ⟨tb, k, none⟩ (.bool false) = W := ⟨_, rfl⟩
        have hg : Turn [tb] w5 w6 := by rw [← hw6]; exact Turn.of_grown (grown_setCell _ _ _ _) (by simp)
        have HRel' : Hid (ThRel w w6 B bm tb (j + 1) n) := by
          refine ⟨⟨_, ?_, HS5.out, ?_⟩, by have := HNJ.out; omega, HB5.out.trans (hg.below HB5.out.size (fun b hb => by simp at hb; omega))⟩
          · rw [← hw6]
            have := HE5.out
            rw [hN] at this
            exact this.store rfl _
          · rw [← hw6]
            exact HT5.out.set k (by omega) false (iff_of_false (by simp) (fun e => ((hi _).1 e).2 rfl)) (fun i hne => ((hi _).trans (and_iff_left (by omega))).symm)
        have i3 : (0 : Int) ≤ (k : Int) := by omega
        have i4 : (k : Int) < 61 := by omega
        have g1 : decide ((k : Int) < 0) = false := decide_eq_false (by omega)
        have g2 : decide ((n : Int) ≤ (k : Int)) = false := decide_eq_false (by omega)
        have g3 : decide (n ≤ k) = false := decide_eq_false (by omega)
        have HW6 := Lib.hid hw6
        rw [← hw5] at u0 y1 c0 f0
        clear hT5 hw5 hw6 hg hx ho hN hi hb
        go_wp2_with fail
        rw [HW5.out, HW6.out]
        go_roundw
        case rel => exact ⟨j + 1, n, by omega, rfl, by go_num, HRel'⟩
        case measure => simp [intOf]; omega
      have a1 : (xa == 1) = false := by rw [beq_eq_false_iff_ne]; exact ha1
      by_cases ha2 : xa = 2
      · subst ha2
        obtain ⟨x, hx, ho, hN, hi⟩ := op_off (S := S) (N := n) (d := xd) (n := xn) (.inr rfl) (by rw [HV.out]) HA.out.nos
        have e := HV.out.symm.trans ho
        simp only [Prod.mk.injEq, and_true] at e
        subst e
        have hb := HA.out.no _ hx
        dsimp only at hb hi
        obtain ⟨k, rfl⟩ : ∃ k : Nat, vn = (k : Int) := ⟨vn.toNat, by omega⟩
        have hk : k < n := by omega
        have c0 : w5.cell? ⟨tb, k, none⟩ = some (.bool true) := hT5.cell (by omega) (iff_of_true rfl ⟨_, hx, rfl⟩)
        have f0 := hT5.free k
        obtain ⟨w6, hw6⟩ : ∃ W, w5.setCell ⟨tb, k, none⟩ (.bool false) = W := ⟨_, rfl⟩
        have hg : Turn [tb] w5 w6 := by rw [← hw6]; exact Turn.of_grown (grown_setCell _ _ _ _) (by simp)
        have HRel' : Hid (ThRel w w6 B bm tb (j + 1) n) := by
          refine ⟨⟨_, ?_, HS5.out, ?_⟩, by have := HNJ.out; omega, HB5.out.trans (hg.below HB5.out.size (fun b hb => by simp at hb; omega))⟩
          · rw [← hw6]
            have := HE5.out
            rw [hN] at this
            exact this.store rfl _
          · rw [← hw6]
            exact HT5.out.set k (by omega) false (iff_of_false (by simp) (fun e => ((hi _).1 e).2 rfl)) (fun i hne => ((hi _).trans (and_iff_left (by omega))).symm)
        have i3 : (0 : Int) ≤ (k : Int) := by omega
        have i4 : (k : Int) < 61 := by omega
        have g1 : decide ((k : Int) < 0) = false := decide_eq_false (by omega)
        have g2 : decide ((n : Int) ≤ (k : Int)) = false := decide_eq_false (by omega)
        have g3 : decide (n ≤ k) = false := decide_eq_false (by omega)
        have HW6 := Lib.hid hw6
        rw [← hw5] at u0 y1 c0 f0
        clear hT5 hw5 hw6 hg hx ho hN hi hb
        go_wp2_with fail
        rw [HW5.out, HW6.out]
        go_roundw
        case rel => exact ⟨j + 1, n, by omega, rfl, by go_num, HRel'⟩
        case measure => simp [intOf]; omega
      have a2 : (xa == 2) = false := by rw [beq_eq_false_iff_ne]; exact ha2
      have hm := op_move (S := S) (N := n) (a := xa) (d := xd) (n := xn) ha0 ha1 ha2 HA.out.ra
      have HRel' : Hid (ThRel w w5 B bm tb (j + 1) n) := ⟨⟨_, by have := HE5.out; rw [hm.1] at this; exact this, HS5.out, HT5.out.congr fun i => (hm.2 i).symm⟩, by have := HNJ.out; omega, HB5.out⟩
      rw [← hw5] at u0 y1
      clear hT5 hw5 hm ha0 ha1 ha2
      go_wp2_with fail
      rw [HW5.out]
      go_roundw
      case rel => exact ⟨j + 1, n, by omega, rfl, by go_num, HRel'⟩
      case measure => simp [intOf]; omega
    · obtain rfl : j = l.length := by omega
      obtain ⟨S, hA, hS, hT⟩ := HRel.out.ex
      have hS60 : S.length ≤ 60 := by omega
      have hn61 : n ≤ 60 := by have := HRel.out.nj; omega
      have HNos := Lib.hid hA.nos
      have HNo := Lib.hid hA.no
      have HCi := Lib.hid (items_x hA (by omega))
      have htw : tb < wr.heap.size := hA.lt rfl
      have HTr := Lib.hid hT
      have HBr := Lib.hid HRel.out.bel
      clear hA hS hT HRel
      go_wp2_with fail
      with_reducible refine HCi.out.mono ?_
      rintro e w2 ⟨a2, c2, rfl, hI, hb2, hI2⟩
      have HI := Lib.hid hI
      have HT2 := Lib.hid (HTr.out.after hb2)
      have HB2 := Lib.hid (HBr.out.trans (hb2.mono HBr.out.size))
      have HI2 : Hid (∀ x, a2 = some x → x.block ≠ tb ∧ x.block < w2.heap.size) := fun x hx => by have := hI2 x hx; exact ⟨by omega, by omega⟩
      clear hI hb2 hI2 HCi HTr HBr htw
      go_wp2_with fail
      go_loopw [10, 11] (fun mv i wq => ∃ k m : Nat, k ≤ n ∧ cntN S k = m ∧ mv = .int .i64 m ∧ i = .int .i64 k ∧ Hid (wq = w2)) (fun _ i _ => n - (intOf i).toNat)
      case atStart => exact ⟨0, 0, by omega, rfl, rfl, rfl, rfl⟩
      case round =>
        obtain ⟨k, m, hk, hm, rfl, rfl, hwq⟩ := hrel
        obtain rfl : w2 = wr := hwq.out.symm
        clear hwq
        by_cases hkn : k < n
        · have hml := cntN_le S k
          have hsucc := cntN_succ S k
          rw [hm] at hml hsucc
          have i3 : (0 : Int) ≤ (k : Int) := by omega
          have i4 : (k : Int) < 61 := by omega
          have i5 : (k : Int) < (n : Int) := by omega
          by_cases hh : HasN S (k : Int)
          · rw [if_pos hh] at hsucc
            have c0 := HT2.out.cell (i := k) (by omega) (b := true) (iff_of_true rfl hh)
            have HSu := Lib.hid hsucc
            clear hsucc hh hm
            go_wp2_with fail
            go_roundw
            case rel => exact ⟨k + 1, m + 1, by omega, HSu.out, by go_num, by go_num, by first | exact rfl | exact trivial⟩
            case measure => simp [intOf]; omega
          · rw [if_neg hh] at hsucc
            have c0 := HT2.out.cell (i := k) (by omega) (b := false) (iff_of_false (by simp) hh)
            have HSu := Lib.hid hsucc
            clear hsucc hh hm
            go_wp2_with fail
            go_roundw
            case rel => exact ⟨k + 1, m, by omega, HSu.out, rfl, by go_num, by first | exact rfl | exact trivial⟩
            case measure => simp [intOf]; omega
        · obtain rfl : k = n := by omega
          rw [cntN_all HNos.out HNo.out] at hm
          subst hm
          go_wp2_with fail
          go_loopw [12] (fun i wq => ∃ j : Nat, j ≤ S.length ∧ i = .int .i64 j ∧ Hid (ThAt wq tb (HasN (S.drop j)) ∧ RecsAt wq a2 3 encI S ∧ Below w.heap.size w wq ∧ w2.heap.size ≤ wq.heap.size)) (fun i _ => S.length - (intOf i).toNat)
          case atStart => exact ⟨0, by omega, rfl, HT2.out, HI.out, HB2.out, Nat.le_refl _⟩
          case round =>
            obtain ⟨j, hj', rfl, HQ⟩ := hrel
            by_cases hlt' : j < S.length
            · have hx := List.getElem?_eq_getElem hlt'
              obtain ⟨x, hy⟩ : ∃ x, S[j] = x := ⟨_, rfl⟩
              rw [hy] at hx
              have hmem : x ∈ S := by rw [← hy]; exact List.getElem_mem _
              have hnx := HNo.out x hmem
              have hI := HQ.out.2.1
              obtain ⟨b2, o2, rfl, _⟩ := hI (by omega)
              obtain ⟨xd, xn, xt⟩ := x
              dsimp only at hnx
              obtain ⟨q, rfl⟩ : ∃ q : Nat, xn = (q : Int) := ⟨xn.toNat, by omega⟩
              have p1 : wr.cell? ⟨b2, o2 + j * 3 + 1, none⟩ = some (.int .i64 q) := RecsAt.cell hI rfl hlt' hx (j := 1) rfl
              have hin : HasN (S.drop j) (q : Int) := ⟨_, by rw [List.drop_eq_getElem_cons hlt', hy]; exact List.mem_cons_self, rfl⟩
              have c0 := HQ.out.1.cell (i := q) (by omega) (b := true) (iff_of_true rfl hin)
              have f0 := HQ.out.1.free q
              obtain ⟨w6, hw6⟩ : ∃ W, wr.setCell ⟨tb, q, none⟩ (.bool false) = W := ⟨_, rfl⟩
              have hg : Turn [tb] wr w6 := by rw [← hw6]; exact Turn.of_grown (grown_setCell _ _ _ _) (by simp)
              have HQ' : Hid (ThAt w6 tb (HasN (S.drop (j + 1))) ∧ RecsAt w6 (some ⟨b2, o2, none⟩) 3 encI S ∧ Below w.heap.size w w6 ∧ w2.heap.size ≤ w6.heap.size) := by
                refine ⟨?_, hg.rows hI (fun x hx => by have := HI2.out x hx; have := HQ.out.2.2.2; omega) (fun x hx hb => by simp at hb; exact (HI2.out x hx).1 hb), HQ.out.2.2.1.trans (hg.below HQ.out.2.2.1.size (fun b hb => by simp at hb; omega)), Nat.le_trans HQ.out.2.2.2 hg.size⟩
                rw [← hw6]
                have hnext := has_next HNos.out hx
                exact HQ.out.1.set q (by omega) false (iff_of_false (by simp) (fun e => ((hnext _).1 e).2 rfl)) (fun i hne => ((hnext _).trans (and_iff_left (by dsimp only; omega))).symm)
              have i1 : (0 : Int) ≤ (j : Int) := by omega
              have i2 : (j : Int) < (S.length : Int) := by omega
              have i3 : (0 : Int) ≤ (q : Int) := by omega
              have i4 : (q : Int) < 61 := by omega
              have g1 : decide ((q : Int) < 0) = false := decide_eq_false (by omega)
              have g2 : decide ((k : Int) ≤ (q : Int)) = false := decide_eq_false (by omega)
              have g3 : decide (k ≤ q) = false := decide_eq_false (by omega)
              have HW6 := Lib.hid hw6
              have HLt := Lib.hid hlt'
              clear hx hy hmem hnx hI hin hw6 hg
              go_wp2_with fail
              rw [HW6.out]
              go_roundw
              case rel => exact ⟨j + 1, by have := HLt.out; omega, by go_num, HQ'⟩
              case measure => have := HLt.out; simp [intOf]; omega
            · obtain rfl : j = S.length := by omega
              go_wp2_with fail
              with_reducible refine (awake_ok11 _).mono ?_
              rintro e w9 ⟨rfl, hb9⟩
              go_wp2_with fail
              go_ret
              exact ⟨rfl, HQ.out.2.2.1.trans (hb9.mono HQ.out.2.2.1.size)⟩
set_option maxRecDepth 100000 in
open Go.ChangeShapes Go.WideShapes Go.ChangeAt in
theorem walk_AgendaThere {H : Type} (enc : TypeId × Value → H) (base : Nat) (W : World) (v : Value) (d : DataW H) (p : List MemPlace) (h : DataW.Trod enc Try.prog W 0 (fun _ => true) true 22 v d p) (ok : Value.okWide Try.prog W .any base 22 v) :
    Calls Try.prog 5 #[v] W fun e w' => e = .returned (.bool true) ∧ Below W.heap.size W w' := by
  obtain ⟨a, cap, l, rfl, hl, hc, _, hT⟩ := opqs_arg h ok
  exact there_law a cap l (by omega) W hT

end Go.Proofs.Ytgcncnmkfpfccaa
