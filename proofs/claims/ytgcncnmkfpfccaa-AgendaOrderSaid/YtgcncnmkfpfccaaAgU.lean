/- The statement AgendaOrder: the walk. -/
import Derived.Test.YtgcncnmkfpfccaaAgT
namespace Go.Proofs.Ytgcncnmkfpfccaa
open Go.RowKit Go.Sort Go.Shelf
set_option linter.unusedVariables false
set_option linter.unusedSimpArgs false

theorem take_drop (S : List It) (j : Nat) (hj : j ≤ S.length) (y : Int) :
    (∃ x, j < S.length ∧ S[j]? = some x ∧ x.d ≤ y ∧ takeO (S.drop j) y = some x ∧ takeS (S.drop j) y = S.drop (j + 1)) ∨
    (takeO (S.drop j) y = none ∧ takeS (S.drop j) y = S.drop j ∧ ((j = S.length ∧ nextV (S.drop j) = .tuple #[.agg #[.int .i64 0, .int .i64 0, .int .i64 0], .bool false]) ∨ ∃ x, j < S.length ∧ S[j]? = some x ∧ y < x.d ∧ nextV (S.drop j) = .tuple #[.agg (encI x).toArray, .bool true])) := by
  by_cases hlt : j < S.length
  · have e := List.drop_eq_getElem_cons hlt
    rw [e]
    by_cases hd : y < S[j].d
    · exact .inr ⟨by unfold takeO; dsimp only; rw [if_pos hd], by unfold takeS; dsimp only; rw [if_pos hd], .inr ⟨S[j], hlt, List.getElem?_eq_getElem hlt, hd, rfl⟩⟩
    · exact .inl ⟨S[j], hlt, List.getElem?_eq_getElem hlt, by omega, by unfold takeO; dsimp only; rw [if_neg hd], by unfold takeS; dsimp only; rw [if_neg hd]⟩
  · obtain rfl : j = S.length := by omega
    rw [List.drop_length]
    exact .inr ⟨rfl, rfl, .inl ⟨rfl, rfl⟩⟩
theorem rise_at {S : List It} (h : Rising It.ky S) {j : Nat} {x z : It} (hj : 0 < j) (hx : S[j]? = some x) (hz : S[j - 1]? = some z) : z.d < x.d ∨ (z.d = x.d ∧ z.n < x.n) := by
  obtain ⟨h1, e1⟩ := List.getElem?_eq_some_iff.1 hx
  obtain ⟨h2, e2⟩ := List.getElem?_eq_some_iff.1 hz
  have := List.pairwise_iff_getElem.1 h (j - 1) j h2 h1 (by omega)
  rw [e1, e2] at this
  simpa [It.ky, ltK] using this
set_option maxHeartbeats 8000000 in
set_option maxRecDepth 100000 in
theorem order_law (a : Option Addr) (cap : Nat) (l : List Oq) (y : Int) (hl : l.length ≤ 9223372036854775807) (w : World) (h : OpsAt w a l) :
    Calls Try.prog 4 #[.slice a l.length cap, .int .i64 y] w (TrueEnd w) := by
  have HR := Lib.hid h
  clear h
  go_enter Try.func4, Try.ntmps4
  go_wp2_with fail
  with_reducible refine (new_x w).mono ?_
  rintro e w1 ⟨B, bm, rfl, hA1, hb1⟩
  have HA1 := Lib.hid hA1
  have HB1 := Lib.hid hb1
  clear hA1 hb1
  by_cases h60 : 60 < l.length
  · have h60' : decide (60 < l.length) = true := decide_eq_true h60
    have h61' : decide (60 < (l.length : Int)) = true := decide_eq_true (by omega)
    clear h60
    go_wp2_with fail
    with_reducible refine (awake_ok11 _).mono ?_
    rintro e w3 ⟨rfl, hb3⟩
    go_wp2_with fail
    go_ret
    exact ⟨rfl, HB1.out.trans (hb3.mono HB1.out.size)⟩
  have h61' : decide (60 < (l.length : Int)) = false := decide_eq_false (by omega)
  have h60' : l.length ≤ 60 := by omega
  clear h60
  go_wp2_with fail
  go_loopw [6] (fun i wr => ∃ j : Nat, j ≤ l.length ∧ i = .int .i64 j ∧ Hid (∃ S N, AgX wr w.heap.size B bm S N (fun _ => False) ∧ S.length ≤ j ∧ N ≤ (j : Int)) ∧ Hid (Below w.heap.size w wr)) (fun i _ => l.length - (intOf i).toNat)
  case atStart => exact ⟨0, by omega, rfl, ⟨[], 0, HA1.out, by simp, by simp⟩, HB1.out⟩
  case round =>
    obtain ⟨j, hj, rfl, HRel, HBr⟩ := hrel
    by_cases hlt : j < l.length
    · have hx := List.getElem?_eq_getElem hlt
      obtain ⟨x, hy⟩ : ∃ x, l[j] = x := ⟨_, rfl⟩
      have hxo : x.Ok := by rw [← hy]; exact HR.out.2 _ (List.getElem_mem _)
      rw [hy] at hx
      have HX := Lib.hid hxo
      have hRr : RecsAt wr a 3 encO l := RowsAt.after HR.out.1 HBr.out
      obtain ⟨b, o, rfl, _⟩ := hRr (by omega)
      obtain ⟨xa, xd, xn⟩ := x
      have t0 : wr.cell? ⟨b, o + j * 3, none⟩ = some (.int .i64 xa) := RecsAt.cell hRr rfl hlt hx (j := 0) rfl
      have t1 : wr.cell? ⟨b, o + j * 3 + 1, none⟩ = some (.int .i64 xd) := RecsAt.cell hRr rfl hlt hx (j := 1) rfl
      have t2 : wr.cell? ⟨b, o + j * 3 + 2, none⟩ = some (.int .i64 xn) := RecsAt.cell hRr rfl hlt hx (j := 2) rfl
      clear hx hRr hy hxo
      have i1 : (0 : Int) ≤ (j : Int) := by omega
      have i2 : (j : Int) < (l.length : Int) := by omega
      obtain ⟨S, N, hA, hS, hN⟩ := HRel.out
      have HC := Lib.hid (does_x xa xd xn HX.out.2.2 (by omega) (by omega) HBr.out.size hA)
      have HS := Lib.hid hS
      have HN := Lib.hid hN
      clear hA hS hN
      go_wp2_with fail
      with_reducible refine HC.out.mono ?_
      rintro e w4 ⟨rfl, hA4, _, hb4⟩
      have HRel4 : Hid (∃ S N, AgX w4 w.heap.size B bm S N (fun _ => False) ∧ S.length ≤ j + 1 ∧ N ≤ ((j + 1 : Nat) : Int)) := ⟨_, _, hA4, by have := opS_len S N xa xd xn; have := HS.out; omega, by have := opN_le N xa xd; have := HN.out; omega⟩
      have HB4 := Lib.hid (HBr.out.trans hb4)
      clear HC HS HN hA4 hb4 HRel HBr t0 t1 t2
      unfold opR
      go_wp2_with fail
      go_roundw
      case rel => exact ⟨j + 1, by omega, by go_num, HRel4, HB4⟩
      case measure => simp [intOf]; omega
    · obtain rfl : j = l.length := by omega
      obtain ⟨S, N, hA, hS, hN⟩ := HRel.out
      have HRa := Lib.hid hA.ra
      have HCi := Lib.hid (items_x hA (by omega))
      have HA2 := Lib.hid hA
      have HS : Hid (S.length ≤ 60) := show S.length ≤ 60 by omega
      clear hA hS hN HRel
      go_wp2_with fail
      with_reducible refine HCi.out.mono ?_
      rintro e w2 ⟨a2, c2, rfl, hI, hb2, hI2⟩
      have HA3 : Hid (AgX w2 w.heap.size B bm S N (fun b => ∃ x, a2 = some x ∧ x.block = b)) := HA2.out.grow hb2 (fun b ⟨x, hx, e⟩ => .inr (e ▸ hI2 x hx))
      have HI := Lib.hid hI
      have HB2 := Lib.hid (HBr.out.trans (hb2.mono HBr.out.size))
      clear hI hb2 hI2 HA2 HCi HBr
      go_wp2_with fail
      go_loopw [8, 9] (fun k i wq => ∃ j : Nat, j ≤ S.length ∧ k = .int .i64 j ∧ i = .int .i64 j ∧ Hid (AgX wq w.heap.size B bm (S.drop j) N (fun b => ∃ x, a2 = some x ∧ x.block = b)) ∧ Hid (RecsAt wq a2 3 encI S) ∧ Hid (Below w.heap.size w wq)) (fun _ i _ => 100 - (intOf i).toNat)
      case atStart => exact ⟨0, by omega, rfl, rfl, HA3.out, HI.out, HB2.out⟩
      case round =>
        obtain ⟨j, hj, rfl, rfl, HAj, HIj, HBj⟩ := hrel
        have hS60 := HS.out
        have t100 : (j : Int) < 100 := by omega
        have HC := Lib.hid (take_x y (by simp; omega) HBj.out.size HAj.out)
        go_wp2_with fail
        with_reducible refine HC.out.mono ?_
        rintro e w3 ⟨rfl, hE, hk, hb3⟩
        have hI3 : RecsAt w3 a2 3 encI S := hk.recs HIj.out (fun x hx => ⟨HAj.out.lt ⟨x, hx, rfl⟩, x, hx, rfl⟩)
        have hB3 := HBj.out.trans hb3
        rcases take_drop S j hj y with ⟨⟨xd, xn, xt⟩, hlt, hx, hd, e1, e2⟩ | ⟨e1, e2, h3⟩
        · rw [e2] at hE
          rw [e1, show itV (some ⟨xd, xn, xt⟩) = .tuple #[.agg #[.int .i64 xd, .int .i64 xn, .int .i64 xt], .bool true] from rfl]
          dsimp only at hd
          obtain ⟨w4, hww4⟩ : ∃ W, w3.alloc (.cells #[.int .i64 xd, .int .i64 xn, .int .i64 xt] 31) = W := ⟨_, rfl⟩
          have hbw4 : Below w3.heap.size w3 w4 := by rw [← hww4]; exact (Below.refl _ _).alloc (Nat.le_refl _) _
          have KK : Blk w4 w3.heap.size #[.int .i64 xd, .int .i64 xn, .int .i64 xt] 31 := by rw [← hww4]; exact Blk.new _ _ _
          have y0 : w4.cell? ⟨w3.heap.size, 0, none⟩ = some (.int .i64 xd) := KK.cell 0 rfl
          have y1 : w4.cell? ⟨w3.heap.size, 1, none⟩ = some (.int .i64 xn) := KK.cell 1 rfl
          have y2 : w4.cell? ⟨w3.heap.size, 2, none⟩ = some (.int .i64 xt) := KK.cell 2 rfl
          have HWw4 := Lib.hid hww4
          have hI4 : RecsAt w4 a2 3 encI S := RowsAt.after hI3 hbw4
          have HI4 := Lib.hid hI4
          have HA4 := Lib.hid (hE.after hbw4)
          have HB4 := Lib.hid (hB3.trans (hbw4.mono hB3.size))
          obtain ⟨b2, o2, rfl, _⟩ := hI4 (by omega)
          have p0 : w4.cell? ⟨b2, o2 + j * 3, none⟩ = some (.int .i64 xd) := RecsAt.cell hI4 rfl hlt hx (j := 0) rfl
          have p1 : w4.cell? ⟨b2, o2 + j * 3 + 1, none⟩ = some (.int .i64 xn) := RecsAt.cell hI4 rfl hlt hx (j := 1) rfl
          have p2 : w4.cell? ⟨b2, o2 + j * 3 + 2, none⟩ = some (.int .i64 xt) := RecsAt.cell hI4 rfl hlt hx (j := 2) rfl
          have heq := fun w => item_neq xd xn xt xd xn xt w
          rw [decide_eq_true rfl] at heq
          have g1 : decide ((S.length : Int) ≤ (j : Int)) = false := decide_eq_false (by omega)
          have g2 : decide (S.length ≤ j) = false := decide_eq_false (by omega)
          have g3 : decide (y < xd) = false := decide_eq_false (by omega)
          have i1 : (0 : Int) ≤ (j : Int) := by omega
          have i2 : (j : Int) < (S.length : Int) := by omega
          by_cases h0 : 0 < j
          · obtain ⟨⟨zd, zn, zt⟩, hz⟩ : ∃ z, S[j - 1]? = some z := ⟨_, List.getElem?_eq_getElem (by omega)⟩
            have hr := rise_at HRa.out h0 hx hz
            dsimp only at hr
            obtain ⟨j', hj'⟩ : ∃ j', j - 1 = j' := ⟨_, rfl⟩
            rw [hj'] at hz
            have q0 : w4.cell? ⟨b2, o2 + j' * 3, none⟩ = some (.int .i64 zd) := RecsAt.cell hI4 rfl (by omega) hz (j := 0) rfl
            have q1 : w4.cell? ⟨b2, o2 + j' * 3 + 1, none⟩ = some (.int .i64 zn) := RecsAt.cell hI4 rfl (by omega) hz (j := 1) rfl
            have i3 : (0 : Int) ≤ (j' : Int) := by omega
            have i4 : (j' : Int) < (S.length : Int) := by omega
            have g4 : decide ((0 : Int) < (j : Int)) = true := decide_eq_true (by omega)
            have g5 : decide (0 < j) = true := decide_eq_true h0
            have hwr : IntKind.i64.wrap ((j : Int) - 1) = (j' : Int) := by rw [IntWalk.i64_in _ (by omega)]; omega
            rw [← hww4] at y0 y1 y2 p0 p1 p2 q0 q1
            clear hx hz hj' hI4 hI3 hE hk hb3 hB3 hww4 hbw4 KK HC HAj HIj HBj e1 e2 t100
            rcases hr with hr | ⟨rfl, hr⟩
            · have g6 : decide (xd < zd) = false := decide_eq_false (by omega)
              have g7 : (xd == zd) = false := by rw [beq_eq_false_iff_ne]; omega
              clear hr hd
              go_wp2_with (go_quiet (fail))
              obtain ⟨w5, hq⟩ : ∃ W, (w3.alloc (.cells #[.int .i64 xd, .int .i64 xn, .int .i64 xt] 31)).drewN nq = W := ⟨_, rfl⟩
              have hbq : Below w4.heap.size w4 w5 := by rw [← hq, HWw4.out]; exact below_draws _ nq
              rw [hq]
              have HA5 := Lib.hid (HA4.out.after hbq)
              have HI5 := Lib.hid (RowsAt.after HI4.out hbq)
              have HB5 := Lib.hid (HB4.out.trans (hbq.mono HB4.out.size))
              clear hq hbq HA4 HI4 HB4 HWw4 y0 y1 y2 p0 p1 p2
              go_wp2_with fail
              go_roundw
              case rel => exact ⟨j + 1, by omega, by go_num, by go_num, HA5, HI5, HB5⟩
              case measure => simp [intOf]; omega
            · have g6 : decide (xn ≤ zn) = false := decide_eq_false (by omega)
              clear hr hd
              go_wp2_with (go_quiet (fail))
              obtain ⟨w5, hq⟩ : ∃ W, (w3.alloc (.cells #[.int .i64 zd, .int .i64 xn, .int .i64 xt] 31)).drewN nq = W := ⟨_, rfl⟩
              have hbq : Below w4.heap.size w4 w5 := by rw [← hq, HWw4.out]; exact below_draws _ nq
              rw [hq]
              have HA5 := Lib.hid (HA4.out.after hbq)
              have HI5 := Lib.hid (RowsAt.after HI4.out hbq)
              have HB5 := Lib.hid (HB4.out.trans (hbq.mono HB4.out.size))
              clear hq hbq HA4 HI4 HB4 HWw4 y0 y1 y2 p0 p1 p2
              go_wp2_with fail
              go_roundw
              case rel => exact ⟨j + 1, by omega, by go_num, by go_num, HA5, HI5, HB5⟩
              case measure => simp [intOf]; omega
          · have g4 : decide ((0 : Int) < (j : Int)) = false := decide_eq_false (by omega)
            have g5 : decide (0 < j) = false := decide_eq_false h0
            rw [← hww4] at y0 y1 y2 p0 p1 p2
            clear hx hI4 hI3 hE hk hb3 hB3 hww4 hbw4 KK HC HAj HIj HBj e1 e2 t100 hd
            go_wp2_with (go_quiet (fail))
            obtain ⟨w5, hq⟩ : ∃ W, (w3.alloc (.cells #[.int .i64 xd, .int .i64 xn, .int .i64 xt] 31)).drewN nq = W := ⟨_, rfl⟩
            have hbq : Below w4.heap.size w4 w5 := by rw [← hq, HWw4.out]; exact below_draws _ nq
            rw [hq]
            have HA5 := Lib.hid (HA4.out.after hbq)
            have HI5 := Lib.hid (RowsAt.after HI4.out hbq)
            have HB5 := Lib.hid (HB4.out.trans (hbq.mono HB4.out.size))
            clear hq hbq HA4 HI4 HB4 HWw4 y0 y1 y2 p0 p1 p2
            go_wp2_with fail
            go_roundw
            case rel => exact ⟨j + 1, by omega, by go_num, by go_num, HA5, HI5, HB5⟩
            case measure => simp [intOf]; omega
        · rw [e2] at hE
          rw [e1, show itV none = .tuple #[.agg #[.int .i64 0, .int .i64 0, .int .i64 0], .bool false] from rfl]
          obtain ⟨w4, hww4⟩ : ∃ W, w3.alloc (.cells #[.int .i64 0, .int .i64 0, .int .i64 0] 31) = W := ⟨_, rfl⟩
          have hbw4 : Below w3.heap.size w3 w4 := by rw [← hww4]; exact (Below.refl _ _).alloc (Nat.le_refl _) _
          have KK : Blk w4 w3.heap.size #[.int .i64 0, .int .i64 0, .int .i64 0] 31 := by rw [← hww4]; exact Blk.new _ _ _
          have y0 : w4.cell? ⟨w3.heap.size, 0, none⟩ = some (.int .i64 0) := KK.cell 0 rfl
          have y1 : w4.cell? ⟨w3.heap.size, 1, none⟩ = some (.int .i64 0) := KK.cell 1 rfl
          have y2 : w4.cell? ⟨w3.heap.size, 2, none⟩ = some (.int .i64 0) := KK.cell 2 rfl
          have HWw4 := Lib.hid hww4
          have HI4 := Lib.hid (RowsAt.after hI3 hbw4)
          have HA4 := Lib.hid (hE.after hbw4)
          have HB4 := Lib.hid (hB3.trans (hbw4.mono hB3.size))
          have HCn := Lib.hid (next_x HA4.out)
          clear hI3 hE hk hb3 hB3 hww4 hbw4 KK y0 y1 y2 HC HAj HIj HBj e1 e2 t100
          go_wp2_with fail
          rw [HWw4.out]
          with_reducible refine HCn.out.mono ?_
          rintro e w5 ⟨rfl, hb5⟩
          rcases h3 with ⟨hj2, hnv⟩ | ⟨⟨xd, xn, xt⟩, hlt, hx, hd, hnv⟩
          · rw [hnv]
            obtain ⟨w6, hww6⟩ : ∃ W, w5.alloc (.cells #[.int .i64 0, .int .i64 0, .int .i64 0] 31) = W := ⟨_, rfl⟩
            have hbw6 : Below w5.heap.size w5 w6 := by rw [← hww6]; exact (Below.refl _ _).alloc (Nat.le_refl _) _
            have KK : Blk w6 w5.heap.size #[.int .i64 0, .int .i64 0, .int .i64 0] 31 := by rw [← hww6]; exact Blk.new _ _ _
            have y0 : w6.cell? ⟨w5.heap.size, 0, none⟩ = some (.int .i64 0) := KK.cell 0 rfl
            have y1 : w6.cell? ⟨w5.heap.size, 1, none⟩ = some (.int .i64 0) := KK.cell 1 rfl
            have y2 : w6.cell? ⟨w5.heap.size, 2, none⟩ = some (.int .i64 0) := KK.cell 2 rfl
            have HWw6 := Lib.hid hww6
            have hb6 := hb5.trans (hbw6.mono hb5.size)
            have HA6 := Lib.hid (HA4.out.after hb6)
            have HB6 := Lib.hid (HB4.out.trans (hb6.mono HB4.out.size))
            have g1 : decide ((j : Int) < (S.length : Int)) = false := decide_eq_false (by omega)
            have g2 : decide (j < S.length) = false := decide_eq_false (by omega)
            have g3 : ((j : Int) == (S.length : Int)) = true := by rw [beq_iff_eq]; omega
            rw [← hww6] at y0 y1 y2
            clear hb5 hb6 hbw6 hww6 KK HA4 HB4 HI4 HWw4 HCn hnv hj2
            go_wp2_with (go_quiet (fail))
            obtain ⟨w7, hq⟩ : ∃ W, (w5.alloc (.cells #[.int .i64 0, .int .i64 0, .int .i64 0] 31)).drewN nq = W := ⟨_, rfl⟩
            have hbq : Below w6.heap.size w6 w7 := by rw [← hq, HWw6.out]; exact below_draws _ nq
            rw [hq]
            have HA7 := Lib.hid (HA6.out.after hbq)
            have HB7 := Lib.hid (HB6.out.trans (hbq.mono HB6.out.size))
            clear hq hbq HA6 HB6 HWw6 y0 y1 y2
            have hlen : (S.drop j).length = S.length - j := List.length_drop
            obtain ⟨m, hm⟩ : ∃ m, (S.drop j).length = m := ⟨_, rfl⟩
            have hwr : IntKind.i64.wrap ((S.length : Int) - (j : Int)) = (m : Int) := by rw [IntWalk.i64_in _ (by omega)]; omega
            have HC8 := Lib.hid (len_x HA7.out)
            rw [hm] at HC8
            clear hlen hm
            go_wp2_with fail
            with_reducible refine HC8.out.mono ?_
            rintro e w8 ⟨rfl, hw8⟩
            obtain rfl : w7 = w8 := hw8.symm
            clear hw8
            go_wp2_with fail
            with_reducible refine (awake_ok11 _).mono ?_
            rintro e w9 ⟨rfl, hb9⟩
            go_wp2_with fail
            go_ret
            exact ⟨rfl, HB7.out.trans (hb9.mono HB7.out.size)⟩
          · rw [hnv]
            dsimp only [encI] at hd ⊢
            obtain ⟨w6, hww6⟩ : ∃ W, w5.alloc (.cells #[.int .i64 xd, .int .i64 xn, .int .i64 xt] 31) = W := ⟨_, rfl⟩
            have hbw6 : Below w5.heap.size w5 w6 := by rw [← hww6]; exact (Below.refl _ _).alloc (Nat.le_refl _) _
            have KK : Blk w6 w5.heap.size #[.int .i64 xd, .int .i64 xn, .int .i64 xt] 31 := by rw [← hww6]; exact Blk.new _ _ _
            have y0 : w6.cell? ⟨w5.heap.size, 0, none⟩ = some (.int .i64 xd) := KK.cell 0 rfl
            have y1 : w6.cell? ⟨w5.heap.size, 1, none⟩ = some (.int .i64 xn) := KK.cell 1 rfl
            have y2 : w6.cell? ⟨w5.heap.size, 2, none⟩ = some (.int .i64 xt) := KK.cell 2 rfl
            have HWw6 := Lib.hid hww6
            have hb6 := hb5.trans (hbw6.mono hb5.size)
            have hI6 := RowsAt.after HI4.out hb6
            have HA6 := Lib.hid (HA4.out.after hb6)
            have HB6 := Lib.hid (HB4.out.trans (hb6.mono HB4.out.size))
            obtain ⟨b2, o2, rfl, _⟩ := hI6 (by omega)
            have p0 : w6.cell? ⟨b2, o2 + j * 3, none⟩ = some (.int .i64 xd) := RecsAt.cell hI6 rfl hlt hx (j := 0) rfl
            have p1 : w6.cell? ⟨b2, o2 + j * 3 + 1, none⟩ = some (.int .i64 xn) := RecsAt.cell hI6 rfl hlt hx (j := 1) rfl
            have p2 : w6.cell? ⟨b2, o2 + j * 3 + 2, none⟩ = some (.int .i64 xt) := RecsAt.cell hI6 rfl hlt hx (j := 2) rfl
            have heq := fun w => item_neq xd xn xt xd xn xt w
            rw [decide_eq_true rfl] at heq
            have g1 : decide ((j : Int) < (S.length : Int)) = true := decide_eq_true (by omega)
            have g2 : decide (j < S.length) = true := decide_eq_true (by omega)
            have g3 : ((j : Int) == (S.length : Int)) = false := by rw [beq_eq_false_iff_ne]; omega
            have g4 : decide (xd ≤ y) = false := decide_eq_false (by omega)
            have i1 : (0 : Int) ≤ (j : Int) := by omega
            have i2 : (j : Int) < (S.length : Int) := by omega
            rw [← hww6] at y0 y1 y2 p0 p1 p2
            clear hb5 hb6 hbw6 hww6 KK HA4 HB4 HI4 HWw4 HCn hnv hx hd hlt hI6
            go_wp2_with (go_quiet (fail))
            obtain ⟨w7, hq⟩ : ∃ W, (w5.alloc (.cells #[.int .i64 xd, .int .i64 xn, .int .i64 xt] 31)).drewN nq = W := ⟨_, rfl⟩
            have hbq : Below w6.heap.size w6 w7 := by rw [← hq, HWw6.out]; exact below_draws _ nq
            rw [hq]
            have HA7 := Lib.hid (HA6.out.after hbq)
            have HB7 := Lib.hid (HB6.out.trans (hbq.mono HB6.out.size))
            clear hq hbq HA6 HB6 HWw6 y0 y1 y2 p0 p1 p2
            have hlen : (S.drop j).length = S.length - j := List.length_drop
            obtain ⟨m, hm⟩ : ∃ m, (S.drop j).length = m := ⟨_, rfl⟩
            have hwr : IntKind.i64.wrap ((S.length : Int) - (j : Int)) = (m : Int) := by rw [IntWalk.i64_in _ (by omega)]; omega
            have HC8 := Lib.hid (len_x HA7.out)
            rw [hm] at HC8
            clear hlen hm
            go_wp2_with fail
            with_reducible refine HC8.out.mono ?_
            rintro e w8 ⟨rfl, hw8⟩
            obtain rfl : w7 = w8 := hw8.symm
            clear hw8
            go_wp2_with fail
            with_reducible refine (awake_ok11 _).mono ?_
            rintro e w9 ⟨rfl, hb9⟩
            go_wp2_with fail
            go_ret
            exact ⟨rfl, HB7.out.trans (hb9.mono HB7.out.size)⟩
end Go.Proofs.Ytgcncnmkfpfccaa
