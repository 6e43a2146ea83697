/- The statement AgendaCopies: the walk. -/
import Derived.Test.YtgcncnmkfpfccaaAgCc
import Derived.Test.YtgcncnmkfpfccaaHeldIn
import Derived.Sort.QuietIn
import Derived.BigQuiet
namespace Go.Proofs.Ytgcncnmkfpfccaa
open Go.RowKit Go.Sort Go.Shelf
set_option linter.unusedVariables false
set_option linter.unusedSimpArgs false
attribute [local go_sem] Oper.semAt_some

theorem wpIn_quiet_roundA {P : Program} {id l n : Nat} {Q : Exit → Act → World → Prop} {a : Act} {w : World} {ops : List Oper} (hm : P.follows .mixedOrders = true) (hB : Region.lexB .any ops.toArray = true) (hQ : ¬ LetsOut Q) (hd : noDeferB ops.toArray = true)
    (h : wpQuiet P ops.toArray (fun w' => ∃ n, w' = w.drewN n) (fun a' => ∀ w', (∃ n, w' = w.drewN n) → Q .normal a' w') ops a) : (Code.region id ops.toArray true).wpIn (Fence.wide.inRound l) n P Q a w := by
  simp only [Region.lexB, Bool.and_eq_true] at hB
  refine wpIn_region_any hm (any_round hQ hd _ _ _ _ (wpAny_of_quiet (C := fun w' => ∃ n, w' = w.drewN n) (Q := fun a' => ∀ w', (∃ n, w' = w.drewN n) → Q .normal a' w') (fun _ w' hw' h => h w' hw') _ _ _ _ ⟨1, rfl⟩ ?_))
  have := wpAnyQ_lex (C := fun w' => ∃ n, w' = w.drewN n) (md := .any) hB.1 ops.toArray.toList 0 (Array.replicate ops.toArray.size false) a (by simp) (by simpa using hB.2) (by simpa using h)
  simpa using this
/-- The range's own: the count's box. -/
def CpI (A : List It) (B : Nat) (w3 : World) (pre : List It) (W : World) : Prop :=
  Blk W B #[.int .i64 (pre.length : Int)] 3 ∧ RowKit.Below B w3 W ∧ w3.heap.size ≤ W.heap.size ∧ pre <+: A

set_option maxHeartbeats 16000000 in
set_option maxRecDepth 100000 in
theorem copies_law (a : Option Addr) (cap : Nat) (l : List Oq) (a' : Option Addr) (cap' : Nat) (m : List Oq) (hl : l.length ≤ 9223372036854775807) (hm : m.length ≤ 9223372036854775807) (u : World) (h0 : OpsAt u a l) (h0' : OpsAt u a' m) :
    Calls Try.prog 7 #[.slice a l.length cap, .slice a' m.length cap'] u (TrueEnd u) := by
  refine (callsIn_wide (n := 5)).1 ?_
  refine callsIn_of_wp_marks Try.func7 rfl trivial ?_ rfl
  simp only [Try.ntmps7, List.size_toArray, List.length_cons, List.length_nil, Nat.reduceAdd, Nat.reduceSub, Array.replicate_succ, Array.replicate_zero, List.push_toArray, List.append_toArray, List.nil_append, List.cons_append]
  refine wpIn_wide.2 ?_
  obtain ⟨w, hw⟩ : ∃ W, u.alloc (.cells #[.bool false] 4) = W := ⟨_, rfl⟩
  have hub : Below u.heap.size u w := by rw [← hw]; exact (Below.refl _ _).alloc (Nat.le_refl _) _
  have kr : Blk w u.heap.size #[.bool false] 4 := by rw [← hw]; exact Blk.new _ _ _
  have zu : w.heap.size = u.heap.size + 1 := by rw [← hw]; simp
  have h : OpsAt w a l := ⟨RowsAt.after h0.1 hub, h0.2⟩
  have HM : Hid (OpsAt w a' m) := ⟨RowsAt.after h0'.1 hub, h0'.2⟩
  have HW := Lib.hid hw
  have HU := Lib.hid hub
  have KR := Lib.hid kr
  have HR := Lib.hid h
  clear hw hub kr h h0 h0'
  go_wp2_with fail
  rw [HW.out]
  with_reducible refine (new_x w).mono ?_
  rintro e w1 ⟨B, bm, rfl, hA1, hb1⟩
  have HA1 := Lib.hid hA1
  have HB1 := Lib.hid hb1
  clear hA1 hb1
  have z1 := HB1.out.size
  by_cases h40 : 40 < l.length
  · have h40' : decide (40 < l.length) = true := decide_eq_true h40
    have h41' : decide (40 < (l.length : Int)) = true := decide_eq_true (by omega)
    clear h40
    go_wp2_with fail
    with_reducible refine (awake_ok11 _).mono ?_
    rintro e w90 ⟨rfl, hb90⟩
    have hbz := HB1.out.trans (hb90.mono HB1.out.size)
    have kz := KR.out.below hbz (by omega)
    have cz : w90.cell? ⟨u.heap.size, 0, none⟩ = some (.bool false) := kz.cell 0 rfl
    have fz := kz.free 0
    have k2 : Blk (w90.setCell ⟨u.heap.size, 0, none⟩ (.bool true)) u.heap.size #[.bool true] 4 := kz.set 0 _
    have cz2 : (w90.setCell ⟨u.heap.size, 0, none⟩ (.bool true)).cell? ⟨u.heap.size, 0, none⟩ = some (.bool true) := k2.cell 0 rfl
    have HFz : Hid (Below u.heap.size u (w90.setCell ⟨u.heap.size, 0, none⟩ (.bool true))) := (HU.out.trans (hbz.mono (by omega))).setCell (p := ⟨u.heap.size, 0, none⟩) (Nat.le_refl _) _
    clear hbz kz k2 hb90
    go_wp2_with fail
    exact ⟨.bool true, by simp [results, Try.results7, go_sem, cz2], rfl, HFz.out⟩
  have h41' : decide (40 < (l.length : Int)) = false := decide_eq_false (by omega)
  have h42' : decide (40 < l.length) = false := decide_eq_false h40
  have h40' : l.length ≤ 40 := by omega
  clear h40
  by_cases h30 : 30 < m.length
  · have h30' : decide (30 < m.length) = true := decide_eq_true h30
    have h31' : decide (30 < (m.length : Int)) = true := decide_eq_true (by omega)
    clear h30
    go_wp2_with fail
    with_reducible refine (awake_ok11 _).mono ?_
    rintro e w90 ⟨rfl, hb90⟩
    have hbz := HB1.out.trans (hb90.mono HB1.out.size)
    have kz := KR.out.below hbz (by omega)
    have cz : w90.cell? ⟨u.heap.size, 0, none⟩ = some (.bool false) := kz.cell 0 rfl
    have fz := kz.free 0
    have k2 : Blk (w90.setCell ⟨u.heap.size, 0, none⟩ (.bool true)) u.heap.size #[.bool true] 4 := kz.set 0 _
    have cz2 : (w90.setCell ⟨u.heap.size, 0, none⟩ (.bool true)).cell? ⟨u.heap.size, 0, none⟩ = some (.bool true) := k2.cell 0 rfl
    have HFz : Hid (Below u.heap.size u (w90.setCell ⟨u.heap.size, 0, none⟩ (.bool true))) := (HU.out.trans (hbz.mono (by omega))).setCell (p := ⟨u.heap.size, 0, none⟩) (Nat.le_refl _) _
    clear hbz kz k2 hb90
    go_wp2_with fail
    exact ⟨.bool true, by simp [results, Try.results7, go_sem, cz2], rfl, HFz.out⟩
  have h31' : decide (30 < (m.length : Int)) = false := decide_eq_false (by omega)
  have h32' : decide (30 < m.length) = false := decide_eq_false h30
  have h30' : m.length ≤ 30 := by omega
  clear h30
  go_wp2_with fail
  clear h41' h42' h31' h32'
  go_loopw [6] (fun i wr => ∃ j : Nat, j ≤ l.length ∧ i = .int .i64 j ∧ Hid (∃ S N, AgX wr w.heap.size B bm S N (fun _ => False) ∧ S.length ≤ j ∧ N ≤ (j : Int)) ∧ Hid (Below w.heap.size w wr)) (fun i _ => l.length - (intOf i).toNat)
  case atStart => exact ⟨0, by omega, rfl, ⟨[], 0, HA1.out, by simp, by simp⟩, HB1.out⟩
  case round =>
    obtain ⟨j, hj, rfl, HRel, HBr⟩ := hrel
    by_cases hlt : j < l.length
    · have hx := List.getElem?_eq_getElem hlt
      obtain ⟨x, hy⟩ : ∃ x, l[j] = x := ⟨_, rfl⟩
      have hxo : x.Ok := by rw [← hy]; exact HR.out.2 _ (List.getElem_mem _)
      rw [hy] at hx
      have HX := Lib.hid hxo
      have hRr : RecsAt wr a 3 encO l := RowsAt.after HR.out.1 HBr.out
      obtain ⟨b, o, rfl, _⟩ := hRr (by omega)
      obtain ⟨xa, xd, xn⟩ := x
      have t0 : wr.cell? ⟨b, o + j * 3, none⟩ = some (.int .i64 xa) := RecsAt.cell hRr rfl hlt hx (j := 0) rfl
      have t1 : wr.cell? ⟨b, o + j * 3 + 1, none⟩ = some (.int .i64 xd) := RecsAt.cell hRr rfl hlt hx (j := 1) rfl
      have t2 : wr.cell? ⟨b, o + j * 3 + 2, none⟩ = some (.int .i64 xn) := RecsAt.cell hRr rfl hlt hx (j := 2) rfl
      clear hx hRr hy hxo
      have i1 : (0 : Int) ≤ (j : Int) := by omega
      have i2 : (j : Int) < (l.length : Int) := by omega
      obtain ⟨S, N, hA, hS, hN⟩ := HRel.out
      have HC := Lib.hid (does_x xa xd xn HX.out.2.2 (by omega) (by omega) HBr.out.size hA)
      have HS := Lib.hid hS
      have HN := Lib.hid hN
      clear hA hS hN
      go_wp2_with fail
      with_reducible refine HC.out.mono ?_
      rintro e w4 ⟨rfl, hA4, _, hb4⟩
      have HRel4 : Hid (∃ S N, AgX w4 w.heap.size B bm S N (fun _ => False) ∧ S.length ≤ j + 1 ∧ N ≤ ((j + 1 : Nat) : Int)) := ⟨_, _, hA4, by have := opS_len S N xa xd xn; have := HS.out; omega, by have := opN_le N xa xd; have := HN.out; omega⟩
      have HB4 := Lib.hid (HBr.out.trans hb4)
      clear HC HS HN hA4 hb4 HRel HBr t0 t1 t2
      unfold opR
      go_wp2_with fail
      go_roundw
      case rel => exact ⟨j + 1, by omega, by go_num, HRel4, HB4⟩
      case measure => simp [intOf]; omega
    · obtain rfl : j = l.length := by omega
      obtain ⟨wA, hwA⟩ : ∃ W, W = wr := ⟨_, rfl⟩
      subst hwA
      obtain ⟨S, N, hA, hS, hN⟩ := HRel.out
      have HAa := Lib.hid hA
      have HCi := Lib.hid (items_x hA (by omega))
      have hSl : S.length ≤ 40 := by omega
      have hNl : N ≤ 40 := by omega
      have zA := HBr.out.size
      clear hA hS hN HRel
      go_wp2_with fail
      with_reducible refine HCi.out.mono ?_
      rintro e w2 ⟨a2, c2, rfl, hI, hb2, hI2⟩
      obtain ⟨w3, hw3⟩ : ∃ W, w2.alloc (.cells #[.slice a2 S.length c2] 47) = W := ⟨_, rfl⟩
      have hb3 : Below w2.heap.size w2 w3 := by rw [← hw3]; exact (Below.refl _ _).alloc (Nat.le_refl _) _
      have kw : Blk w3 w2.heap.size #[.slice a2 S.length c2] 47 := by rw [← hw3]; exact Blk.new _ _ _
      have z2 := hb2.size
      have z3 : w3.heap.size = w2.heap.size + 1 := by rw [← hw3]; simp
      have hb23 := hb2.trans (hb3.mono z2)
      have HI2 := Lib.hid hI2
      have HI3 : Hid (RecsAt w3 a2 3 encI S) := RowsAt.after hI hb3
      have KW3 := Lib.hid kw
      have HA3 := Lib.hid (HAa.out.after hb23)
      have HB3 := Lib.hid hb23
      have HW3 := Lib.hid hw3
      have HCl := Lib.hid (all_x (by omega) HA3.out)
      clear hI hb2 hI2 hw3 hb3 kw hb23 HCi
      go_wp2_with fail
      rw [HW3.out]
      with_reducible refine HCl.out.mono ?_
      rintro e w4 ⟨Bs, rfl, hSq, hb4, hBs, hBx⟩
      have heq0 := eqlfI (.func 40) #[] #[.pointer (some ⟨Bs, 0, none⟩)]
      have z4 := hb4.size
      have HS4 := Lib.hid hSq
      have HBx := Lib.hid hBx
      have HI4 : Hid (RecsAt w4 a2 3 encI S) := RowsAt.after HI3.out hb4
      have KW4 := Lib.hid (KW3.out.after hb4)
      have HA4 := Lib.hid (HA3.out.after hb4)
      have HB4 := Lib.hid (HB3.out.trans (hb4.mono HB3.out.size))
      have HCc := Lib.hid (copy_x (by omega) (by omega) HA4.out)
      clear hSq hb4 hBx HCl HW3
      go_wp2_with fail
      with_reducible refine HCc.out.mono ?_
      rintro e w5 ⟨Bc, mc, vc, rfl, hc, hb5⟩
      have z5 := hb5.size
      have hcd := copy_x (S := S) (N := N) (by omega) (by omega) (HA4.out.after hb5)
      have HCd := Lib.hid hcd
      have HCa := Lib.hid hc
      have HB5 := Lib.hid hb5
      clear hcd hc hb5 HCc
      go_wp2_with fail
      with_reducible refine HCd.out.mono ?_
      rintro e w6 ⟨Bd, md, vd, rfl, hd, hb6⟩
      have z6 := hb6.size
      have HT6 := Lib.hid (two_copies HCa.out hb6 hd)
      have HB6 := Lib.hid (HB5.out.trans (hb6.mono HB5.out.size))
      have HBw6 : Hid (Below w.heap.size w w6) := HBr.out.trans ((HB4.out.mono zA).trans (HB6.out.mono (by omega)))
      clear hb6 hd HCd HCa HB5
      go_wp2_with fail
      clear heq0
      go_loopw [11] (fun i wr => ∃ j : Nat, j ≤ m.length ∧ i = .int .i64 j ∧ Hid (∃ S1 N1, runQ (m.take j) (S, N) = (S1, N1) ∧ Two wr w4.heap.size Bc mc w5.heap.size Bd md S1 N1 S1 N1 (fun _ => False)) ∧ Hid (Below w4.heap.size w6 wr)) (fun i _ => m.length - (intOf i).toNat)
      case atStart => exact ⟨0, by omega, rfl, ⟨S, N, rfl, HT6.out⟩, Below.refl _ _⟩
      case round =>
        obtain ⟨j, hj, rfl, HRj, HBj⟩ := hrel
        have zj := HBj.out.size
        by_cases hlt : j < m.length
        · have hx := List.getElem?_eq_getElem hlt
          obtain ⟨x, hy⟩ : ∃ x, m[j] = x := ⟨_, rfl⟩
          have hxo : x.Ok := by rw [← hy]; exact HM.out.2 _ (List.getElem_mem _)
          have hTk : m.take (j + 1) = m.take j ++ [m[j]] := List.take_succ_eq_append_getElem hlt
          rw [hy] at hx hTk
          have HX := Lib.hid hxo
          obtain ⟨b, o, rfl, _⟩ := HM.out.1 (by omega)
          obtain ⟨xa, xd, xn⟩ := x
          have HO : Hid (∀ X, Below w.heap.size w X → X.cell? ⟨b, o + j * 3, none⟩ = some (.int .i64 xa) ∧ X.cell? ⟨b, o + j * 3 + 1, none⟩ = some (.int .i64 xd) ∧ X.cell? ⟨b, o + j * 3 + 2, none⟩ = some (.int .i64 xn)) := fun X hX => by
            have hRr : RecsAt X (some ⟨b, o, none⟩) 3 encO m := RowsAt.after HM.out.1 hX
            exact ⟨RecsAt.cell hRr rfl hlt hx (j := 0) rfl, RecsAt.cell hRr rfl hlt hx (j := 1) rfl, RecsAt.cell hRr rfl hlt hx (j := 2) rfl⟩
          obtain ⟨t0, t1, t2⟩ := HO.out wr (HBw6.out.trans (HBj.out.mono (by omega)))
          clear hx hy hxo
          have i1 : (0 : Int) ≤ (j : Int) := by omega
          have i2 : (j : Int) < (m.length : Int) := by omega
          obtain ⟨S1, N1, hrun, hT⟩ := HRj.out
          have hq := runQ_len (m.take j) (S, N)
          rw [hrun, List.length_take] at hq
          dsimp only at hq
          have hq1 : S1.length ≤ 80000 := by omega
          have hq2 : N1 ≤ 900000 := by omega
          have HC := Lib.hid (hT.left xa xd xn HX.out.2.2 hq2 hq1 (by omega))
          have HTk : Hid (runQ (m.take (j + 1)) (S, N) = (opS S1 N1 xa xd xn, opN N1 xa xd)) := by
            show _ = _
            rw [hTk, runQ_snoc, hrun]
          clear hT hrun hq hTk
          go_wp2_with fail
          with_reducible refine HC.out.mono ?_
          rintro e w7 ⟨rfl, hT7, _, hb7⟩
          unfold opR
          obtain ⟨⟨⟨vd, vn, vt⟩, ve⟩, hv⟩ : ∃ p, opV S1 N1 xa xd xn = p := ⟨_, rfl⟩
          have HV := Lib.hid hv
          rw [hv]
          dsimp only [encI]
          obtain ⟨w8, hww8⟩ : ∃ W, w7.alloc (.cells #[.int .i64 vd, .int .i64 vn, .int .i64 vt] 31) = W := ⟨_, rfl⟩
          have hbw8 : Below w7.heap.size w7 w8 := by rw [← hww8]; exact (Below.refl _ _).alloc (Nat.le_refl _) _
          have KK : Blk w8 w7.heap.size #[.int .i64 vd, .int .i64 vn, .int .i64 vt] 31 := by rw [← hww8]; exact Blk.new _ _ _
          have HKw8 := Lib.hid KK
          have HWw8 := Lib.hid hww8
          have zb7 := hb7.size
          have hb78 := hb7.trans (hbw8.mono (by omega))
          have zb8 := hb78.size
          have zw7 : w7.heap.size < w8.heap.size := by rw [← hww8]; simp
          have HT8 := Lib.hid (hT7.grow (Y := (· = w7.heap.size)) hbw8 (fun b e => .inr (by subst e; exact ⟨Nat.le_refl _, zw7⟩)))
          have HB8 : Hid (Below w4.heap.size w6 w8) := HBj.out.trans hb78
          obtain ⟨s0, s1, s2⟩ := HO.out w8 (HBw6.out.trans (HB8.out.mono (by omega)))
          rw [← hww8] at s0 s1 s2
          have HC2 := Lib.hid (HT8.out.swap.left xa xd xn HX.out.2.2 hq2 hq1 (by omega))
          clear hww8 hbw8 KK hT7 hb7 hb78 hv HT8 HRj HBj HC t0 t1 t2
          go_wp2_with fail
          rw [HWw8.out]
          with_reducible refine HC2.out.mono ?_
          rintro e w9 ⟨rfl, hT9, hk9, hb9⟩
          unfold opR
          rw [HV.out]
          dsimp only [encI]
          have KX9 : Blk w9 w7.heap.size #[.int .i64 vd, .int .i64 vn, .int .i64 vt] 31 := hk9.blk HKw8.out rfl
          obtain ⟨w10, hww10⟩ : ∃ W, w9.alloc (.cells #[.int .i64 vd, .int .i64 vn, .int .i64 vt] 31) = W := ⟨_, rfl⟩
          have hbw10 : Below w9.heap.size w9 w10 := by rw [← hww10]; exact (Below.refl _ _).alloc (Nat.le_refl _) _
          have KK : Blk w10 w9.heap.size #[.int .i64 vd, .int .i64 vn, .int .i64 vt] 31 := by rw [← hww10]; exact Blk.new _ _ _
          have HKw10 := Lib.hid KK
          have HWw10 := Lib.hid hww10
          have y0 : w10.cell? ⟨w9.heap.size, 0, none⟩ = some (.int .i64 vd) := KK.cell 0 rfl
          have y1 : w10.cell? ⟨w9.heap.size, 1, none⟩ = some (.int .i64 vn) := KK.cell 1 rfl
          have y2 : w10.cell? ⟨w9.heap.size, 2, none⟩ = some (.int .i64 vt) := KK.cell 2 rfl
          replace KK := KX9.after hbw10
          have x0 : w10.cell? ⟨w7.heap.size, 0, none⟩ = some (.int .i64 vd) := KK.cell 0 rfl
          have x1 : w10.cell? ⟨w7.heap.size, 1, none⟩ = some (.int .i64 vn) := KK.cell 1 rfl
          have x2 : w10.cell? ⟨w7.heap.size, 2, none⟩ = some (.int .i64 vt) := KK.cell 2 rfl
          rw [← hww10] at y0 y1 y2 x0 x1 x2
          have heq := fun w => item_neq vd vn vt vd vn vt w
          rw [decide_eq_true rfl] at heq
          have zb9 := hb9.size
          have HR10 : Hid (∃ S1 N1, runQ (m.take (j + 1)) (S, N) = (S1, N1) ∧ Two w10 w4.heap.size Bc mc w5.heap.size Bd md S1 N1 S1 N1 (fun _ => False)) := ⟨_, _, HTk.out, hT9.swap.grow hbw10 (fun _ h => h.elim)⟩
          have HB10 : Hid (Below w4.heap.size w6 w10) := HB8.out.trans ((hb9.mono (by omega)).trans (hbw10.mono (by omega)))
          clear hww10 hbw10 KK KX9 hT9 hk9 hb9 HC2 s0 s1 s2 HTk
          go_wp2_with fail
          rw [HWw10.out]
          go_roundw
          case rel => exact ⟨j + 1, by omega, by go_num, HR10, HB10⟩
          case measure => simp [intOf]; omega
        · obtain rfl : j = m.length := by omega
          obtain ⟨wB, hwB⟩ : ∃ W, W = wr := ⟨_, rfl⟩
          subst hwB
          obtain ⟨S1, N1, hrun, hT⟩ := HRj.out
          rw [List.take_length] at hrun
          have hq := runQ_len m (S, N)
          rw [hrun] at hq
          dsimp only at hq
          have hq1 : S1.length ≤ 70 := by omega
          have HRun := Lib.hid hrun
          have HTB := Lib.hid hT
          have HB4B : Hid (Below w4.heap.size w4 wB) := HB6.out.trans HBj.out
          have HAB := Lib.hid (HA4.out.after HB4B.out)
          have HCi2 := Lib.hid (items_x HAB.out (by omega))
          clear hT hrun hq HRj
          go_wp2_with fail
          with_reducible refine HCi2.out.mono ?_
          rintro e w11 ⟨a8, c8, rfl, hI8, hb11, hx8⟩
          have z11 := hb11.size
          have HB11 : Hid (Below w4.heap.size w4 w11) := HB4B.out.trans (hb11.mono (by omega))
          have HBA11 : Hid (Below wA.heap.size wA w11) := HB4.out.trans (HB11.out.mono (by omega))
          have HBw11 : Hid (Below w.heap.size w w11) := HBr.out.trans (HBA11.out.mono zA)
          have HI8 := Lib.hid hI8
          have HX8 := Lib.hid hx8
          have HI11 : Hid (RecsAt w11 a2 3 encI S) := RowsAt.after HI4.out HB11.out
          have KW11 := Lib.hid (KW4.out.after HB11.out)
          have HA11 : Hid (AgX w11 w.heap.size B bm S N (fun b => wA.heap.size ≤ b ∧ b < w11.heap.size)) := HAa.out.grow HBA11.out (fun b hb => .inr hb)
          have HT11 := Lib.hid (HTB.out.grow (Y := fun _ => False) hb11 (fun _ h => h.elim))
          clear hI8 hb11 hx8 HCi2 HAB
          go_wp2_with fail
          go_loopw [17] (fun i wr => ∃ j : Nat, j ≤ m.length ∧ i = .int .i64 j ∧ Hid (∃ S1 N1, runQ (m.take j) (S, N) = (S1, N1) ∧ AgX wr w.heap.size B bm S1 N1 (fun b => wA.heap.size ≤ b ∧ b < w11.heap.size)) ∧ Hid (KeptX (fun b => wA.heap.size ≤ b ∧ b < w11.heap.size) w11 wr) ∧ Hid (Below w.heap.size w wr) ∧ w11.heap.size ≤ wr.heap.size) (fun i _ => m.length - (intOf i).toNat)
          case atStart => exact ⟨0, by omega, rfl, ⟨S, N, rfl, HA11.out⟩, KeptX.refl _ _, HBw11.out, Nat.le_refl _⟩
          case round =>
            obtain ⟨j, hj, rfl, HRj, HKj, HBwj, zj⟩ := hrel
            by_cases hlt : j < m.length
            · have hx := List.getElem?_eq_getElem hlt
              obtain ⟨x, hy⟩ : ∃ x, m[j] = x := ⟨_, rfl⟩
              have hxo : x.Ok := by rw [← hy]; exact HM.out.2 _ (List.getElem_mem _)
              have hTk : m.take (j + 1) = m.take j ++ [m[j]] := List.take_succ_eq_append_getElem hlt
              rw [hy] at hx hTk
              have HX := Lib.hid hxo
              obtain ⟨b, o, rfl, _⟩ := HM.out.1 (by omega)
              obtain ⟨xa, xd, xn⟩ := x
              have HO : Hid (∀ X, Below w.heap.size w X → X.cell? ⟨b, o + j * 3, none⟩ = some (.int .i64 xa) ∧ X.cell? ⟨b, o + j * 3 + 1, none⟩ = some (.int .i64 xd) ∧ X.cell? ⟨b, o + j * 3 + 2, none⟩ = some (.int .i64 xn)) := fun X hX => by
                have hRr : RecsAt X (some ⟨b, o, none⟩) 3 encO m := RowsAt.after HM.out.1 hX
                exact ⟨RecsAt.cell hRr rfl hlt hx (j := 0) rfl, RecsAt.cell hRr rfl hlt hx (j := 1) rfl, RecsAt.cell hRr rfl hlt hx (j := 2) rfl⟩
              obtain ⟨t0, t1, t2⟩ := HO.out wr (HBwj.out)
              clear hx hy hxo
              have i1 : (0 : Int) ≤ (j : Int) := by omega
              have i2 : (j : Int) < (m.length : Int) := by omega
              obtain ⟨S2, N2, hrun, hT⟩ := HRj.out
              have hq := runQ_len (m.take j) (S, N)
              rw [hrun, List.length_take] at hq
              dsimp only at hq
              have hq1 : S2.length ≤ 80000 := by omega
              have hq2 : N2 ≤ 900000 := by omega
              have HC := Lib.hid (does_x xa xd xn HX.out.2.2 hq2 hq1 (by omega) hT)
              have HTk : Hid (runQ (m.take (j + 1)) (S, N) = (opS S2 N2 xa xd xn, opN N2 xa xd)) := by
                show _ = _
                rw [hTk, runQ_snoc, hrun]
              clear hT hrun hq hTk
              go_wp2_with fail
              with_reducible refine HC.out.mono ?_
              rintro e w12 ⟨rfl, hA12, hk12, hb12⟩
              have HR12 : Hid (∃ S1 N1, runQ (m.take (j + 1)) (S, N) = (S1, N1) ∧ AgX w12 w.heap.size B bm S1 N1 (fun b => wA.heap.size ≤ b ∧ b < w11.heap.size)) := ⟨_, _, HTk.out, hA12⟩
              have HK12 := Lib.hid (HKj.out.trans hk12)
              have HB12 := Lib.hid (HBwj.out.trans hb12)
              obtain ⟨bs12, ht12, _⟩ := hk12
              have z12 := ht12.size
              clear hA12 ht12 hb12 HC HTk t0 t1 t2
              unfold opR
              go_wp2_with fail
              go_roundw
              case rel => exact ⟨j + 1, by omega, by go_num, HR12, HK12, HB12, by omega⟩
              case measure => simp [intOf]; omega
            · obtain rfl : j = m.length := by omega
              obtain ⟨wC, hwC⟩ : ∃ W, W = wr := ⟨_, rfl⟩
              subst hwC
              obtain ⟨S2, N2, hrun, hT⟩ := HRj.out
              rw [List.take_length, HRun.out] at hrun
              obtain ⟨rfl, rfl⟩ := Prod.mk.inj hrun
              have HAC := Lib.hid hT
              clear hT hrun
              have HKWC : Hid (Blk wC w2.heap.size #[.slice a2 S.length c2] 47) := HKj.out.blk KW11.out ⟨z2, by omega⟩
              have HIC : Hid (RecsAt wC a2 3 encI S) := HKj.out.recs HI11.out (fun x hx => by have := HI2.out x hx; exact ⟨by omega, by omega, by omega⟩)
              have HI8C : Hid (RecsAt wC a8 3 encI S) := HKj.out.recs HI8.out (fun x hx => by have := HX8.out x hx; exact ⟨by omega, by omega, by omega⟩)
              have HSC : Hid (SeqAt wC w4.heap.size Bs 3 47 encI S) := seq_kept (lo := w3.heap.size) HS4.out HB11.out HKj.out HBx.out (by omega) (fun b h1 h2 => ⟨by omega, by omega⟩)
              have HCC : Hid (∃ vc, AgAt wC w4.heap.size Bc mc vc S1 N1) := by
                obtain ⟨v1, v2, h1, _, _, _⟩ := HT11.out
                exact ⟨v1, h1.keptX HKj.out (fun b g1 g2 => ⟨by omega, g2⟩)⟩
              obtain ⟨w13, hw13⟩ : ∃ W, wC.alloc (.cells #[.int .i64 0] 3) = W := ⟨_, rfl⟩
              have hb13 : Below wC.heap.size wC w13 := by rw [← hw13]; exact (Below.refl _ _).alloc (Nat.le_refl _) _
              have kn : Blk w13 wC.heap.size #[.int .i64 0] 3 := by rw [← hw13]; exact Blk.new _ _ _
              have z13 : w13.heap.size = wC.heap.size + 1 := by rw [← hw13]; simp
              have HS13 : Hid (SeqAt w13 wC.heap.size Bs 3 47 encI S) := (HSC.out.below (hb13.mono (by omega))).mono (by omega)
              have HKN := Lib.hid kn
              have HW13 := Lib.hid hw13
              have HBC : Hid (Below w.heap.size w wC) := HBwj.out
              have HB13 := Lib.hid hb13
              have HKR : Hid (Blk wC u.heap.size #[.bool false] 4) := KR.out.below HBC.out (by omega)
              have hIl : ∀ x, a2 = some x → x.block < wC.heap.size := fun x hx => by have := HI2.out x hx; omega
              have HIl := Lib.hid hIl
              clear hw13 hb13 kn hIl HRj HKj HI11 HI8 HI3 HI4 KW3 KW4 KW11 HA3 HA4 HA11 HT6 HTB HT11 HS4 HBwj HBw11 HBA11
              go_wp2_with fail
              rw [HW13.out]
              refine wpIn_wide (n := 5) |>.1 ?_
              refine wpIn_range_box rfl (by omega) (gf := 40) (lb := #[.pointer (some ⟨Bs, 0, none⟩)]) rfl trivial (enters_of Try.func40 (by kernel_rfl) rfl)
                (valI_stops _ (by omega) wC.heap.size Bs S (by omega) w13 HS13.out (by omega)) belowK_t (belowK_b (by omega)) (Below.refl _ _) (fun _ => rfl)
                (CpI S wC.heap.size w13) (fun c pre _ => ¬ pre <+: S)
                (OwnFrom.and (Own.from (blk_own _ (fun (pre : List It) => #[.int .i64 (pre.length : Int)]) _) _) (OwnFrom.and (ownFrom_below (by omega) (by omega)) (OwnFrom.and (fun s X Y row hs hg hr => Nat.le_trans hs hg.size) (fun s X Y row hs hg hr => hs))))
                (fun _ _ _ _ _ hs _ _ => hs)
                ⟨HKN.out, Below.refl _ _, Nat.le_refl _, List.nil_prefix⟩
                31 encI 19 w13.heap.size (fun pre W h => h.2.2.1) (fun pre W o h => (Below.refl _ _).alloc (by have := h.2.2.1; omega) _)
                ?assign ?body ?done ?stop
              case assign =>
                intro l pre x W K hI hK
                have hK' := Lib.hid hK
                clear hK hI
                obtain ⟨xd, xn, xt⟩ := x
                dsimp only [encVI, encI] at hK' ⊢
                gi_wp2_with fail
                simpa [boxAct, encI] using hK'.out
              case body =>
                rintro l2 pre x Bx W hl2 ⟨r, hr⟩ ⟨hn, hB, hz, hpre⟩ hBx hX hlt
                obtain ⟨z, hz0⟩ : ∃ z, S[pre.length]? = some z := ⟨_, List.getElem?_eq_getElem hlt⟩
                have hIW : RecsAt W a2 3 encI S := RowsAt.below (RowsAt.after HIC.out HB13.out) hB HIl.out
                have kw : Blk W w2.heap.size #[.slice a2 S.length c2] 47 := (HKWC.out.after HB13.out).below hB (by omega)
                have kr : Blk W u.heap.size #[.bool false] 4 := (HKR.out.after HB13.out).below hB (by omega)
                obtain ⟨b2, o2, rfl, _⟩ := hIW (by omega)
                obtain ⟨c, hc⟩ : ∃ c, pre.length = c := ⟨_, rfl⟩
                have hsnoc : z = x → pre ++ [x] <+: S := by
                  rintro rfl
                  obtain ⟨t, ht⟩ := hpre
                  rw [← ht, List.getElem?_append_right (Nat.le_refl _), Nat.sub_self] at hz0
                  cases t with
                  | nil => cases hz0
                  | cons y t =>
                    simp at hz0
                    subst hz0
                    exact ⟨t, by rw [← ht]; simp⟩
                have hsnot : z ≠ x → ¬ pre ++ [x] <+: S := fun hne ⟨t, ht⟩ => hne (by
                  rw [← ht] at hz0
                  simp at hz0
                  exact hz0.symm)
                rw [hc] at hn hlt hz0
                have HSn := Lib.hid hsnoc
                have HSt := Lib.hid hsnot
                obtain ⟨xd, xn, xt⟩ := x
                obtain ⟨yd, yn, yt⟩ := z
                dsimp only [encI] at hX
                have x0 : W.cell? ⟨Bx, 0, none⟩ = some (.int .i64 xd) := hX.cell 0 rfl
                have x1 : W.cell? ⟨Bx, 1, none⟩ = some (.int .i64 xn) := hX.cell 1 rfl
                have x2 : W.cell? ⟨Bx, 2, none⟩ = some (.int .i64 xt) := hX.cell 2 rfl
                have n1 : W.cell? ⟨wC.heap.size, 0, none⟩ = some (.int .i64 (c : Int)) := hn.cell 0 rfl
                have nf := hn.free 0
                have v1 : W.cell? ⟨w2.heap.size, 0, none⟩ = some (.slice (some ⟨b2, o2, none⟩) S.length c2) := kw.cell 0 rfl
                have rc : W.cell? ⟨u.heap.size, 0, none⟩ = some (.bool false) := kr.cell 0 rfl
                have rf := kr.free 0
                have p0 : W.cell? ⟨b2, o2 + c * 3, none⟩ = some (.int .i64 yd) := RecsAt.cell hIW rfl hlt hz0 (j := 0) rfl
                have p1 : W.cell? ⟨b2, o2 + c * 3 + 1, none⟩ = some (.int .i64 yn) := RecsAt.cell hIW rfl hlt hz0 (j := 1) rfl
                have p2 : W.cell? ⟨b2, o2 + c * 3 + 2, none⟩ = some (.int .i64 yt) := RecsAt.cell hIW rfl hlt hz0 (j := 2) rfl
                have heq := fun w => item_neq yd yn yt xd xn xt w
                have g1 : decide ((S.length : Int) ≤ (c : Int)) = false := decide_eq_false (by omega)
                have g2 : decide (S.length ≤ c) = false := decide_eq_false (by omega)
                have i1 : (0 : Int) ≤ (c : Int) := by omega
                have i2 : (c : Int) < (S.length : Int) := by omega
                have i3 : IntKind.i64.wrap ((c : Int) + 1) = (c : Int) + 1 := IntWalk.i64_in _ (by omega)
                have HFin : Hid ((⟨yd, yn, yt⟩ : It) = ⟨xd, xn, xt⟩ → ∀ n, KeepsFrom w13.heap.size W ((W.drewN n).setCell ⟨wC.heap.size, 0, none⟩ (.int .i64 ((c : Int) + 1))) ∧ RowKit.Below wC.heap.size W ((W.drewN n).setCell ⟨wC.heap.size, 0, none⟩ (.int .i64 ((c : Int) + 1))) ∧ CpI S wC.heap.size w13 (pre ++ [⟨xd, xn, xt⟩]) ((W.drewN n).setCell ⟨wC.heap.size, 0, none⟩ (.int .i64 ((c : Int) + 1)))) := fun he n => by
                  have hq := below_draws (B := W.heap.size) W n
                  have hbs : RowKit.Below wC.heap.size W ((W.drewN n).setCell ⟨wC.heap.size, 0, none⟩ (.int .i64 ((c : Int) + 1))) := (hq.mono (show wC.heap.size ≤ W.heap.size by omega)).setCell (p := ⟨wC.heap.size, 0, none⟩) (Nat.le_refl _) _
                  refine ⟨(keeps_below hq _).trans ((KeepsOthers.setCell _ _ _).from _), hbs, ?_, hB.trans hbs, Nat.le_trans (Nat.le_trans hz hq.size) (by simp), HSn.out he⟩
                  have := (hn.after hq).set 0 (.int .i64 ((c : Int) + 1))
                  rw [List.length_append, List.length_singleton, hc]
                  exact this
                have HFin2 : Hid ((⟨yd, yn, yt⟩ : It) ≠ ⟨xd, xn, xt⟩ → ∀ n v, KeepsFrom w13.heap.size W ((W.drewN n).setCell ⟨u.heap.size, 0, none⟩ v) ∧ ¬ pre ++ [⟨xd, xn, xt⟩] <+: S) := fun he n v => by
                  have hq := below_draws (B := W.heap.size) W n
                  exact ⟨(keeps_below hq _).trans ((KeepsOthers.setCell _ _ _).from _), HSt.out he⟩
                simp only [boxAct, encVI, encI, List.zip_toArray, List.zip_cons_cons, List.zip_nil_right, List.foldl_toArray, List.foldl_cons, List.foldl_nil, List.setIfInBounds_toArray, List.set_cons_succ, List.set_cons_zero]
                clear hX hn hB hz hpre hIW kw kr hz0 hBx HSn HSt hsnoc hsnot hc
                by_cases he : (⟨yd, yn, yt⟩ : It) = ⟨xd, xn, xt⟩
                · rw [decide_eq_true he] at heq
                  have HFin := Lib.hid (HFin.out he)
                  clear he HFin2
                  gi_wp2_with fail
                  refine wpIn_quiet_roundA (by kernel_rfl) (by kernel_rfl) (fun ⟨_, _, h⟩ => h) (by rfl) ?_
                  repeat (go_big_quiet_step (fail))
                  refine wpQuiet_nil ?_
                  rintro _ ⟨nq, rfl⟩
                  gi_wp2_with fail
                  exact HFin.out _
                · rw [decide_eq_false he] at heq
                  have HFin2 := Lib.hid (HFin2.out he)
                  clear he HFin
                  gi_wp2_with fail
                  refine wpIn_quiet_roundA (by kernel_rfl) (by kernel_rfl) (fun ⟨_, _, h⟩ => h) (by rfl) ?_
                  repeat (go_big_quiet_step (fail))
                  refine wpQuiet_nil ?_
                  rintro _ ⟨nq, rfl⟩
                  gi_wp2_with fail
                  exact HFin2.out _ _
              case done =>
                rintro D ys W hD hys ⟨hn, hB, hz, _⟩ hK
                rw [hys] at hn
                clear hys
                have hDW : D < W.heap.size := (Array.getElem?_eq_some_iff.1 hK).1
                have HKD := Lib.hid hK
                have hBW : Below wC.heap.size wC W := HB13.out.trans hB
                have HBW := Lib.hid hBW
                have HIW : Hid (RecsAt W a2 3 encI S) := RowsAt.after HIC.out hBW
                have HI8W : Hid (RecsAt W a8 3 encI S) := RowsAt.after HI8C.out hBW
                have HKWW := Lib.hid (HKWC.out.after hBW)
                have HKRW := Lib.hid (HKR.out.after hBW)
                have HAW := Lib.hid (HAC.out.after hBW)
                have HCW : Hid (∃ vc, AgAt W w4.heap.size Bc mc vc S1 N1) := by
                  obtain ⟨vc, h⟩ := HCC.out
                  exact ⟨vc, h.after hBW⟩
                have HBwW : Hid (Below w.heap.size w W) := HBC.out.trans (hBW.mono (by omega))
                have n1 : W.cell? ⟨wC.heap.size, 0, none⟩ = some (.int .i64 (S.length : Int)) := hn.cell 0 rfl
                have v1 : W.cell? ⟨w2.heap.size, 0, none⟩ = some (.slice a2 S.length c2) := HKWW.out.cell 0 rfl
                clear hn hB hz hK hBW HIC HI8C HKWC HKR HAC HCC HS13 HKN HSC
                go_wp2_with fail
                clear n1 v1
                go_loopw [20] (fun i wr => ∃ j : Nat, j ≤ (S).length ∧ i = .int .i64 j ∧ Hid (Below (W).heap.size W wr)) (fun i _ => (S).length - (intOf i).toNat)
                case atStart => exact ⟨0, by omega, rfl, Below.refl _ _⟩
                case round =>
                  obtain ⟨j, hj, rfl, HBq⟩ := hrel
                  have zq := HBq.out.size
                  have v1 : wr.cell? ⟨w2.heap.size, 0, none⟩ = some (.slice a2 S.length c2) := (HKWW.out.after HBq.out).cell 0 rfl
                  by_cases hlt : j < (S).length
                  · have hx := List.getElem?_eq_getElem hlt
                    obtain ⟨x, hy⟩ : ∃ x, (S)[j] = x := ⟨_, rfl⟩
                    rw [hy] at hx
                    have hR1 := RowsAt.after HI8W.out HBq.out
                    have hR2 := RowsAt.after HIW.out HBq.out
                    obtain ⟨b, o, rfl, _⟩ := hR1 (by omega)
                    obtain ⟨b', o', rfl, _⟩ := hR2 (by omega)
                    obtain ⟨xd, xn, xt⟩ := x
                    have p0 : wr.cell? ⟨b, o + j * 3, none⟩ = some (.int .i64 xd) := RecsAt.cell hR1 rfl hlt hx (j := 0) rfl
                    have p1 : wr.cell? ⟨b, o + j * 3 + 1, none⟩ = some (.int .i64 xn) := RecsAt.cell hR1 rfl hlt hx (j := 1) rfl
                    have p2 : wr.cell? ⟨b, o + j * 3 + 2, none⟩ = some (.int .i64 xt) := RecsAt.cell hR1 rfl hlt hx (j := 2) rfl
                    have q0 : wr.cell? ⟨b', o' + j * 3, none⟩ = some (.int .i64 xd) := RecsAt.cell hR2 rfl hlt hx (j := 0) rfl
                    have q1 : wr.cell? ⟨b', o' + j * 3 + 1, none⟩ = some (.int .i64 xn) := RecsAt.cell hR2 rfl hlt hx (j := 1) rfl
                    have q2 : wr.cell? ⟨b', o' + j * 3 + 2, none⟩ = some (.int .i64 xt) := RecsAt.cell hR2 rfl hlt hx (j := 2) rfl
                    have heq := fun w => item_neq xd xn xt xd xn xt w
                    rw [decide_eq_true rfl] at heq
                    have i1 : (0 : Int) ≤ (j : Int) := by omega
                    have i2 : (j : Int) < ((S).length : Int) := by omega
                    clear hx hy hR1 hR2
                    go_wp2_with (go_quiet (fail))
                    go_roundw
                    case rel => exact ⟨j + 1, by omega, by go_num, HBq.out.trans (below_draws _ _)⟩
                    case measure => simp [intOf]; omega
                  · obtain rfl : j = S.length := by omega
                    obtain ⟨wE, hwE⟩ : ∃ W, W = wr := ⟨_, rfl⟩
                    subst hwE
                    have HAE := Lib.hid (HAW.out.after HBq.out)
                    have HCi3 := Lib.hid (items_x HAE.out (by omega))
                    obtain ⟨vc1, hcc⟩ := HCW.out
                    have HCE := Lib.hid (hcc.after HBq.out)
                    clear hcc
                    go_wp2_with fail
                    with_reducible refine HCi3.out.mono ?_
                    rintro e w14 ⟨a9, c9, rfl, hI9, hb14, hx9⟩
                    have z14 := hb14.size
                    have HI9 := Lib.hid hI9
                    have HB14 := Lib.hid (HBq.out.trans (hb14.mono zq))
                    have HCi4 := Lib.hid (items_ok _ _ _ _ _ _ w14 (HCE.out.after hb14) (by omega))
                    clear hI9 hb14 hx9 HCi3 v1
                    go_wp2_with fail
                    with_reducible refine HCi4.out.mono ?_
                    rintro e w15 ⟨a10, c10, rfl, hI10, hb15, hx10⟩
                    have z15 := hb15.size
                    have HI10 := Lib.hid hI10
                    have HI9' : Hid (RecsAt w15 a9 3 encI S1) := RowsAt.after HI9.out hb15
                    have HB15 := Lib.hid (HB14.out.trans (hb15.mono (by omega)))
                    clear hI10 hb15 hx10 HCi4 HI9
                    go_wp2_with fail
                    go_loopw [23] (fun i wr => ∃ j : Nat, j ≤ (S1).length ∧ i = .int .i64 j ∧ Hid (Below (w15).heap.size w15 wr)) (fun i _ => (S1).length - (intOf i).toNat)
                    case atStart => exact ⟨0, by omega, rfl, Below.refl _ _⟩
                    case round =>
                      obtain ⟨j, hj, rfl, HBq⟩ := hrel
                      have zq := HBq.out.size
                      skip
                      by_cases hlt : j < (S1).length
                      · have hx := List.getElem?_eq_getElem hlt
                        obtain ⟨x, hy⟩ : ∃ x, (S1)[j] = x := ⟨_, rfl⟩
                        rw [hy] at hx
                        have hR1 := RowsAt.after HI9'.out HBq.out
                        have hR2 := RowsAt.after HI10.out HBq.out
                        obtain ⟨b, o, rfl, _⟩ := hR1 (by omega)
                        obtain ⟨b', o', rfl, _⟩ := hR2 (by omega)
                        obtain ⟨xd, xn, xt⟩ := x
                        have p0 : wr.cell? ⟨b, o + j * 3, none⟩ = some (.int .i64 xd) := RecsAt.cell hR1 rfl hlt hx (j := 0) rfl
                        have p1 : wr.cell? ⟨b, o + j * 3 + 1, none⟩ = some (.int .i64 xn) := RecsAt.cell hR1 rfl hlt hx (j := 1) rfl
                        have p2 : wr.cell? ⟨b, o + j * 3 + 2, none⟩ = some (.int .i64 xt) := RecsAt.cell hR1 rfl hlt hx (j := 2) rfl
                        have q0 : wr.cell? ⟨b', o' + j * 3, none⟩ = some (.int .i64 xd) := RecsAt.cell hR2 rfl hlt hx (j := 0) rfl
                        have q1 : wr.cell? ⟨b', o' + j * 3 + 1, none⟩ = some (.int .i64 xn) := RecsAt.cell hR2 rfl hlt hx (j := 1) rfl
                        have q2 : wr.cell? ⟨b', o' + j * 3 + 2, none⟩ = some (.int .i64 xt) := RecsAt.cell hR2 rfl hlt hx (j := 2) rfl
                        have heq := fun w => item_neq xd xn xt xd xn xt w
                        rw [decide_eq_true rfl] at heq
                        have i1 : (0 : Int) ≤ (j : Int) := by omega
                        have i2 : (j : Int) < ((S1).length : Int) := by omega
                        clear hx hy hR1 hR2
                        go_wp2_with (go_quiet (fail))
                        go_roundw
                        case rel => exact ⟨j + 1, by omega, by go_num, HBq.out.trans (below_draws _ _)⟩
                        case measure => simp [intOf]; omega
                      · obtain rfl : j = S1.length := by omega
                        have HBz : Hid (Below W.heap.size W wr) := HB15.out.trans (HBq.out.mono (by omega))
                        clear HBq
                        go_wp2_with fail
                        with_reducible refine (awake_ok11 _).mono ?_
                        rintro e w90 ⟨rfl, hb90⟩
                        have hbz := HBz.out.trans (hb90.mono HBz.out.size)
                        have kz := HKRW.out.after hbz
                        have cz : w90.cell? ⟨u.heap.size, 0, none⟩ = some (.bool false) := kz.cell 0 rfl
                        have fz := kz.free 0
                        obtain ⟨w9, hw9⟩ : ∃ Y, w90.setCell ⟨u.heap.size, 0, none⟩ (.bool true) = Y := ⟨_, rfl⟩
                        have KF : Hid (Blk w9 u.heap.size #[.bool true] 4) := by rw [← hw9]; exact kz.set 0 _
                        have HB9 : Hid (Below u.heap.size u w9) := by rw [← hw9]; exact ((HU.out.trans (HBwW.out.mono (by omega))).trans (hbz.mono (by omega))).setCell (p := ⟨u.heap.size, 0, none⟩) (Nat.le_refl _) _
                        have hD1 : w90.heap[D]? = some (.deferred (some [])) := (hbz.block D hDW).trans HKD.out
                        have HD1 : Hid (w9.heap[D]? = some (.deferred (some []))) := by rw [← hw9]; exact (KeepsOthers.setCell _ _ _).same D _ hD1 rfl
                        have HW9 := Lib.hid hw9
                        clear hw9 kz hbz hD1 hb90
                        go_wp2_with fail
                        rw [HW9.out]
                        refine ⟨by simp, .inl ⟨_, _, rfl, run_takeDeferred HD1.out, ?_⟩⟩
                        have r0 := cell_kept (KF.out.cell 0 rfl) (grownBy_putObj' w9 D (.deferred none)) (fun r e => by cases e; exact ⟨_, HD1.out, rfl⟩)
                        exact ⟨.bool true, by simp [results, Try.results7, go_sem, r0], rfl, HB9.out.trans (belowK_b (w := u) (Nat.le_refl _) _ D _ _ (by omega) HD1.out rfl rfl)⟩
              case stop =>
                rintro D c pre W _ hp h _
                exact absurd hp h

end Go.Proofs.Ytgcncnmkfpfccaa
