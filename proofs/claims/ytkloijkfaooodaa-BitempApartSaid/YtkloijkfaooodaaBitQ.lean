/- The statement BitempApart: the walk. -/
import Derived.Test.YtkloijkfaooodaaBitP
namespace Go.Proofs.Ytkloijkfaooodaa
open Go.RowKit Go.Shelf
set_option linter.unusedVariables false
set_option linter.unusedSimpArgs false

def TrueEnd (w : World) (e : Ending) (w' : World) : Prop := e = .returned (.bool true) ∧ Below w.heap.size w w'
/-- What stands at the head of the calls' loop. -/
structure ApRel (w w0 wr : World) (l : List Vs) (q : PK) (p1 bm1 p2 bm2 j : Nat) : Prop where
  two : ∃ s1 s2, Two wr w0.heap.size p1 bm1 s1 (runV [] (l.take j)) p2 bm2 s2 (ofP (runV [] (l.take j)) q)
  below : Below w.heap.size w wr
set_option maxHeartbeats 8000000 in
set_option maxRecDepth 100000 in
theorem apart_law (a : Option Addr) (cap : Nat) (l : List Vs) (v : Vs) (hl : l.length ≤ 9223372036854775807) (hv : v.Ok) (w : World) (h : VersAt w a l) :
    Calls Try.prog 3 #[.slice a l.length cap, .agg (encS v).toArray] w (TrueEnd w) := by
  have HR := Lib.hid h
  clear h
  have hb0 := Blk.new w (encS v).toArray 26
  obtain ⟨w0, hw0⟩ : ∃ W, w.alloc (.cells (encS v).toArray 26) = W := ⟨_, rfl⟩
  have hbw : Below w.heap.size w w0 := by rw [← hw0]; exact (Below.refl _ _).alloc (Nat.le_refl _) _
  rw [hw0] at hb0
  have HV0 := Lib.hid hb0
  have HB0 := Lib.hid hbw
  have z0 : w0.heap.size = w.heap.size + 1 := by rw [← hw0]; simp
  obtain ⟨q, hq⟩ : ∃ q, v.pl = q := ⟨_, rfl⟩
  have HQ := Lib.hid hq
  have HVO := Lib.hid hv
  obtain ⟨ys, yc, yk, yd, yn, ym, yp⟩ := v
  dsimp only [encS] at HV0 hw0 ⊢
  have HW0 := Lib.hid hw0
  clear hw0 hb0 hbw hq hv
  go_enter Try.func3, Try.ntmps3
  go_wp2_with fail
  rw [HW0.out]
  with_reducible refine (bnew_ok w0.heap.size w0 (Nat.le_refl _)).mono ?_
  rintro e w1 ⟨p1, bm1, rfl, hS1, hb1, g1, g2⟩
  have HS1 := Lib.hid hS1
  have z01 := hb1.size
  have HB1 := Lib.hid (HB0.out.trans (hb1.mono HB0.out.size))
  have HV1 := Lib.hid (HV0.out.after hb1)
  clear hS1 hb1
  go_wp2_with fail
  with_reducible refine (bnew_ok w0.heap.size w1 z01).mono ?_
  rintro e w2 ⟨p2, bm2, rfl, hS2, hb2, g3, g4⟩
  have HT2 : Hid (Two w2 w0.heap.size p1 bm1 (.slice none 0 0) [] p2 bm2 (.slice none 0 0) []) := ⟨HS1.out.after hb2, hS2, fun b hb hc => by
    have := HS1.out.bs_lt b hb
    simp [StAt.bs, Value.ownBlock] at hc
    omega⟩
  have z02 := hb2.size
  have HB2 := Lib.hid (HB1.out.trans (hb2.mono HB1.out.size))
  have HV2 := Lib.hid (HV1.out.after hb2)
  clear hS2 hb2
  by_cases h60 : 60 < l.length
  · have h60' : decide (60 < l.length) = true := decide_eq_true h60
    have h61' : decide (60 < (l.length : Int)) = true := decide_eq_true (by omega)
    clear h60
    go_wp2_with fail
    with_reducible refine (awake_ok12 _).mono ?_
    rintro e w3 ⟨rfl, hb3⟩
    go_wp2_with fail
    go_ret
    exact ⟨rfl, HB2.out.trans (hb3.mono HB2.out.size)⟩
  · have h61' : decide (60 < (l.length : Int)) = false := decide_eq_false (by omega)
    have h60' : l.length ≤ 60 := by omega
    clear h60
    go_wp2_with fail
    go_loopw [7] (fun i wr => ∃ j : Nat, j ≤ l.length ∧ i = .int .i64 j ∧ Hid (ApRel w w0 wr l q p1 bm1 p2 bm2 j) ∧ Hid (Blk wr w.heap.size #[.int .i64 ys, .bool yc, .int .i64 yk, .int .i64 yd, .int .i64 yn, .int .i64 ym, .int .i64 yp] 26)) (fun i _ => l.length - (intOf i).toNat)
    case atStart => exact ⟨0, by omega, rfl, ⟨⟨_, _, HT2.out⟩, HB2.out⟩, HV2.out⟩
    case round =>
      obtain ⟨j, hj, rfl, HRel, HVr⟩ := hrel
      by_cases hlt : j < l.length
      · have hx := List.getElem?_eq_getElem hlt
        obtain ⟨x, hy⟩ : ∃ x, l[j] = x := ⟨_, rfl⟩
        have hxo : x.Ok := by rw [← hy]; exact HR.out.2 _ (List.getElem_mem _)
        have hT : l.take (j + 1) = l.take j ++ [l[j]] := List.take_succ_eq_append_getElem hlt
        rw [hy] at hx hT
        have HX := Lib.hid hxo
        have HT := Lib.hid hT
        have hRr : RecsAt wr a 7 encS l := RowsAt.after HR.out.1 HRel.out.below
        obtain ⟨b, o, rfl, _⟩ := hRr (by omega)
        obtain ⟨xs, xc, xk, xd, xn, xm, xp⟩ := x
        have t0 : wr.cell? ⟨b, o + j * 7, none⟩ = some (.int .i64 xs) := RecsAt.cell hRr rfl hlt hx (j := 0) rfl
        have t1 : wr.cell? ⟨b, o + j * 7 + 1, none⟩ = some (.bool xc) := RecsAt.cell hRr rfl hlt hx (j := 1) rfl
        have t2 : wr.cell? ⟨b, o + j * 7 + 2, none⟩ = some (.int .i64 xk) := RecsAt.cell hRr rfl hlt hx (j := 2) rfl
        have t3 : wr.cell? ⟨b, o + j * 7 + 3, none⟩ = some (.int .i64 xd) := RecsAt.cell hRr rfl hlt hx (j := 3) rfl
        have t4 : wr.cell? ⟨b, o + j * 7 + 4, none⟩ = some (.int .i64 xn) := RecsAt.cell hRr rfl hlt hx (j := 4) rfl
        have t5 : wr.cell? ⟨b, o + j * 7 + 5, none⟩ = some (.int .i64 xm) := RecsAt.cell hRr rfl hlt hx (j := 5) rfl
        have t6 : wr.cell? ⟨b, o + j * 7 + 6, none⟩ = some (.int .i64 xp) := RecsAt.cell hRr rfl hlt hx (j := 6) rfl
        clear hx hRr hy hT hxo
        have i1 : (0 : Int) ≤ (j : Int) := by omega
        have i2 : (j : Int) < (l.length : Int) := by omega
        go_wp2_with fail
        obtain ⟨⟨s1, s2, hTwo⟩, hBr⟩ := HRel.out
        obtain ⟨w3, hw3⟩ : ∃ W, wr.alloc (.cells #[.int .i64 xs, .bool xc, .int .i64 xk, .int .i64 xd, .int .i64 xn, .int .i64 xm, .int .i64 xp] 26) = W := ⟨_, rfl⟩
        rw [hw3]
        have hb3 : Below wr.heap.size wr w3 := by rw [← hw3]; exact (Below.refl _ _).alloc (Nat.le_refl _) _
        have KX3 : Hid (Blk w3 wr.heap.size #[.int .i64 xs, .bool xc, .int .i64 xk, .int .i64 xd, .int .i64 xn, .int .i64 xm, .int .i64 xp] 26) := by rw [← hw3]; exact Blk.new _ _ _
        have HTwo := Lib.hid (hTwo.after hb3)
        have HL1 := Lib.hid hTwo.l.bs_lt
        have HL2 := Lib.hid hTwo.r.bs_lt
        have HB3 := Lib.hid (hBr.trans (hb3.mono hBr.size))
        have HV3 := Lib.hid (HVr.out.after hb3)
        have hlen : (runV [] (l.take j)).length ≤ 60 := by have := runV_len [] (l.take j); simp at this; omega
        have zr := hb3.size
        have hgood := Lib.hid (runV_good GoodV.nil (l.take j))
        have HTS : Hid (runV [] (l.take (j + 1)) = callV (runV [] (l.take j)) ⟨xs, xc, xk, xd, xn, xm, xp⟩) := by
          show _ = _
          rw [HT.out, runV_snoc]
        obtain ⟨V, hV⟩ : ∃ V, runV [] (l.take j) = V := ⟨_, rfl⟩
        rw [hV] at HTwo hlen hgood HTS
        clear hw3 hb3 hTwo hBr hV HRel HVr t0 t1 t2 t3 t4 t5 t6
        have HC : Hid (∀ (pp bb : Nat) (ss : Value) (U : List Vs) (W : World), w0.heap.size ≤ W.heap.size → StAt W w0.heap.size pp bb ss U → U.length ≤ 900 → Calls Try.prog 12 #[.pointer (some ⟨pp, 0, none⟩), .agg #[.int .i64 xs, .bool xc, .int .i64 xk, .int .i64 xd, .int .i64 xn, .int .i64 xm, .int .i64 xp]] W (CallEnd W w0.heap.size pp bb ss U ⟨xs, xc, xk, xd, xn, xm, xp⟩)) := fun pp bb ss U W h1 h2 h3 => calls_ok w0.heap.size pp bb ss U ⟨xs, xc, xk, xd, xn, xm, xp⟩ HX.out.n HX.out.m W h1 h2 h3
        with_reducible refine (HC.out p1 bm1 s1 V w3 (by have := HTwo.out.l.hp; have := HTwo.out.l.lt.1; omega) HTwo.out.l (by omega)).mono ?_
        rintro e w4 ⟨s1', rfl, hst, ht, hg⟩
        have HTwo4 := Lib.hid (HTwo.out.step hst ht hg)
        have KX4 := Lib.hid (ht.blk KX3.out (fun hb => by have := HL1.out _ hb; omega))
        have HV4 := Lib.hid (ht.blk HV3.out (fun hb => by have := HTwo.out.l.bs_ge _ hb; omega))
        unfold callV3
        obtain ⟨⟨os, oc, ok, od, on, om, op⟩, ho⟩ : ∃ o, (callO V ⟨xs, xc, xk, xd, xn, xm, xp⟩).getD default = o := ⟨_, rfl⟩
        obtain ⟨is, his⟩ : ∃ is, (callO V ⟨xs, xc, xk, xd, xn, xm, xp⟩).isSome = is := ⟨_, rfl⟩
        obtain ⟨F, hF⟩ : ∃ F, callE V ⟨xs, xc, xk, xd, xn, xm, xp⟩ = F := ⟨_, rfl⟩
        rw [ho, his, hF]
        have HF := Lib.hid hF
        dsimp only [encS]
        have HB4 := Lib.hid (HB3.out.trans (ht.below HB3.out.size (fun b hb => by have := HTwo.out.l.bs_ge _ hb; omega)))
        obtain ⟨w5, hw5⟩ : ∃ W, w4.alloc (.cells #[.int .i64 os, .bool oc, .int .i64 ok, .int .i64 od, .int .i64 on, .int .i64 om, .int .i64 op] 26) = W := ⟨_, rfl⟩
        have hb5 : Below w4.heap.size w4 w5 := by rw [← hw5]; exact (Below.refl _ _).alloc (Nat.le_refl _) _
        have HW5 := Lib.hid hw5
        have HTwo5 := Lib.hid (HTwo4.out.after hb5)
        have HB5 := Lib.hid (HB4.out.trans (hb5.mono HB4.out.size))
        have KX5 := KX4.out.after hb5
        have KV5 := HV4.out.after hb5
        have u1 : w5.cell? ⟨wr.heap.size, 1, none⟩ = some (.bool xc) := KX5.cell 1 rfl
        have u2 : w5.cell? ⟨wr.heap.size, 2, none⟩ = some (.int .i64 xk) := KX5.cell 2 rfl
        have u3 : w5.cell? ⟨wr.heap.size, 3, none⟩ = some (.int .i64 xd) := KX5.cell 3 rfl
        have q1 : w5.cell? ⟨w.heap.size, 1, none⟩ = some (.bool yc) := KV5.cell 1 rfl
        have q2 : w5.cell? ⟨w.heap.size, 2, none⟩ = some (.int .i64 yk) := KV5.cell 2 rfl
        have q3 : w5.cell? ⟨w.heap.size, 3, none⟩ = some (.int .i64 yd) := KV5.cell 3 rfl
        have HKX := Lib.hid KX5
        have HKV := Lib.hid KV5
        rw [← hw5] at u1 u2 u3 q1 q2 q3
        clear hw5 hb5 KX5 KV5 ho his hF hst ht hg HTwo4 KX4 HV4 HB4 HB3 KX3 HV3 HTwo HL1 HL2
        by_cases h0 : F = 0
        · subst h0
          have KX := HKX.out
          have u0 : w5.cell? ⟨wr.heap.size, 0, none⟩ = some (.int .i64 xs) := KX.cell 0 rfl
          have u4 : w5.cell? ⟨wr.heap.size, 4, none⟩ = some (.int .i64 xn) := KX.cell 4 rfl
          have u5 : w5.cell? ⟨wr.heap.size, 5, none⟩ = some (.int .i64 xm) := KX.cell 5 rfl
          have u6 : w5.cell? ⟨wr.heap.size, 6, none⟩ = some (.int .i64 xp) := KX.cell 6 rfl
          rw [← HW5.out] at u0 u4 u5 u6
          clear KX
          by_cases hpl : Vs.pl ⟨xs, xc, xk, xd, xn, xm, xp⟩ = q
          · have hq := HQ.out
            obtain ⟨e1, e2, e3⟩ : xc = yc ∧ xk = yk ∧ xd = yd := by
              have := hpl.trans hq.symm
              simpa [Vs.pl] using this
            subst e1 e2 e3
            have hA := call_apart hgood.out HF.out
            rw [hpl] at hA
            have HA1 := Lib.hid hA.1
            have HA2 := Lib.hid hA.2
            clear hq hpl hA
            go_wp2_with fail
            rw [HW5.out]
            with_reducible refine (HC.out p2 bm2 s2 (ofP V q) w5 (by have := HTwo5.out.r.hp; have := HTwo5.out.r.lt.1; omega) HTwo5.out.r (by have := ofP_len V q; omega)).mono ?_
            rintro e w6 ⟨s2', rfl, hst, ht, hg⟩
            have HTwo6 := Lib.hid (HTwo5.out.swap.step hst ht hg).swap
            have HV6 := Lib.hid (ht.blk HKV.out (fun hb => by have := HTwo5.out.r.bs_ge _ hb; omega))
            unfold callV3
            obtain ⟨⟨os', oc', ok', od', on', om', op'⟩, ho⟩ : ∃ o, (callO (ofP V q) ⟨xs, xc, xk, xd, xn, xm, xp⟩).getD default = o := ⟨_, rfl⟩
            obtain ⟨is', his⟩ : ∃ is, (callO (ofP V q) ⟨xs, xc, xk, xd, xn, xm, xp⟩).isSome = is := ⟨_, rfl⟩
            rw [ho, his, HA1.out]
            dsimp only [encS]
            have HB6 := Lib.hid (HB5.out.trans (ht.below HB5.out.size (fun b hb => by have := HTwo5.out.r.bs_ge _ hb; omega)))
            obtain ⟨w7, hww7⟩ : ∃ W, w6.alloc (.cells #[.int .i64 os', .bool oc', .int .i64 ok', .int .i64 od', .int .i64 on', .int .i64 om', .int .i64 op'] 26) = W := ⟨_, rfl⟩
            have hbw7 : Below w6.heap.size w6 w7 := by rw [← hww7]; exact (Below.refl _ _).alloc (Nat.le_refl _) _
            have HW7 := Lib.hid hww7
            have HTwo7 := Lib.hid (HTwo6.out.after hbw7)
            have HB7 := Lib.hid (HB6.out.trans (hbw7.mono HB6.out.size))
            have HKV7 := Lib.hid (HV6.out.after hbw7)
            have HE : Hid (Two w7 w0.heap.size p1 bm1 s1' (runV [] (l.take (j + 1))) p2 bm2 s2' (ofP (runV [] (l.take (j + 1))) q)) := by
              show Two _ _ _ _ _ _ _ _ _ _
              rw [HTS.out, ← HA2.out]
              exact HTwo7.out
            clear hww7 hbw7 ho his hst ht hg HTwo6 HV6 HB6 u0 u1 u2 u3 u4 u5 u6 q1 q2 q3
            go_wp2_with fail
            rw [HW7.out]
            go_roundw
            case rel => exact ⟨j + 1, by omega, by go_num, ⟨⟨_, _, HE.out⟩, HB7.out⟩, HKV7⟩
            case measure => simp [intOf]; omega
          · have HE : Hid (Two w5 w0.heap.size p1 bm1 s1' (runV [] (l.take (j + 1))) p2 bm2 s2 (ofP (runV [] (l.take (j + 1))) q)) := by
              show Two _ _ _ _ _ _ _ _ _ _
              rw [HTS.out, call_other (Or.inr hpl)]
              exact HTwo5.out
            have h3 : xc ≠ yc ∨ xc = yc ∧ xk ≠ yk ∨ xc = yc ∧ xk = yk ∧ xd ≠ yd := by
              rw [← HQ.out] at hpl
              simp only [Vs.pl, Prod.mk.injEq, not_and] at hpl
              by_cases a1 : xc = yc
              · by_cases a2 : xk = yk
                · exact Or.inr (Or.inr ⟨a1, a2, hpl a1 a2⟩)
                · exact Or.inr (Or.inl ⟨a1, a2⟩)
              · exact Or.inl a1
            clear hpl u0 u4 u5 u6
            rcases h3 with h3 | ⟨rfl, h3⟩ | ⟨rfl, rfl, h3⟩
            · have h4 : yc = !xc := by cases xc <;> cases yc <;> simp_all
              subst h4
              cases xc <;> clear h3
              · go_wp2_with fail
                rw [HW5.out]
                go_roundw
                case rel => exact ⟨j + 1, by omega, by go_num, ⟨⟨_, _, HE.out⟩, HB5.out⟩, HKV⟩
                case measure => simp [intOf]; omega
              · go_wp2_with fail
                rw [HW5.out]
                go_roundw
                case rel => exact ⟨j + 1, by omega, by go_num, ⟨⟨_, _, HE.out⟩, HB5.out⟩, HKV⟩
                case measure => simp [intOf]; omega
            · have h5 : (xk != yk) = true := by simpa using h3
              clear h3
              go_wp2_with fail
              rw [HW5.out]
              go_roundw
              case rel => exact ⟨j + 1, by omega, by go_num, ⟨⟨_, _, HE.out⟩, HB5.out⟩, HKV⟩
              case measure => simp [intOf]; omega
            · have h5 : (xd != yd) = true := by simpa using h3
              clear h3
              go_wp2_with fail
              rw [HW5.out]
              go_roundw
              case rel => exact ⟨j + 1, by omega, by go_num, ⟨⟨_, _, HE.out⟩, HB5.out⟩, HKV⟩
              case measure => simp [intOf]; omega
        · have h0' : (F != 0) = true := by simpa using h0
          have h0'' : (F == 0) = false := by simpa using h0
          have h0''' : decide (F = 0) = false := decide_eq_false h0
          have HN := Lib.hid h0
          clear h0
          have HE : Hid (Two w5 w0.heap.size p1 bm1 s1' (runV [] (l.take (j + 1))) p2 bm2 s2 (ofP (runV [] (l.take (j + 1))) q)) := by
            show Two _ _ _ _ _ _ _ _ _ _
            rw [HTS.out, call_other (Or.inl (by rw [HF.out]; exact HN.out))]
            exact HTwo5.out
          go_wp2_with fail
          rw [HW5.out]
          go_roundw
          case rel => exact ⟨j + 1, by omega, by go_num, ⟨⟨_, _, HE.out⟩, HB5.out⟩, HKV⟩
          case measure => simp [intOf]; omega
      · obtain rfl : j = l.length := by omega
        obtain ⟨⟨s1, s2, hTwo⟩, hBr⟩ := HRel.out
        rw [List.take_length] at hTwo
        have hgood := runV_good GoodV.nil l
        have hlen : (runV [] l).length ≤ 60 := by have := runV_len [] l; simp at this; omega
        obtain ⟨V, hV⟩ : ∃ V, runV [] l = V := ⟨_, rfl⟩
        rw [hV] at hTwo hlen hgood
        have hA60 := ofP_len V q
        have hq1 := HQ.out
        have q1 : wr.cell? ⟨w.heap.size, 1, none⟩ = some (.bool yc) := HVr.out.cell 1 rfl
        have q2 : wr.cell? ⟨w.heap.size, 2, none⟩ = some (.int .i64 yk) := HVr.out.cell 2 rfl
        have q3 : wr.cell? ⟨w.heap.size, 3, none⟩ = some (.int .i64 yd) := HVr.out.cell 3 rfl
        have HBr := Lib.hid hBr
        have HTwo := Lib.hid hTwo
        have HGood := Lib.hid hgood
        clear hV hTwo hBr hgood HRel hq1
        have hzw := HBr.out.size
        go_wp2_with fail
        with_reducible refine (bhist_ok w0.heap.size p1 bm1 s1 V yc yk yd wr HTwo.out.l (by omega)).mono ?_
        rintro e w3 ⟨Bs1, rfl, hSeq1, hb3, _⟩
        have HSeq := Lib.hid hSeq1
        have HTwo3 := Lib.hid (HTwo.out.after hb3)
        have HV3 := Lib.hid (HVr.out.after hb3)
        have HB3 := Lib.hid (HBr.out.trans (hb3.mono HBr.out.size))
        clear hSeq1 hb3 q1 q2 q3
        go_wp2_with fail
        have hqV : ofP V (yc, yk, yd) = ofP V q := by rw [← HQ.out]; rfl
        have HqV := Lib.hid hqV
        with_reducible refine (list_ok Bs1 (ofP V (yc, yk, yd)) w3 HSeq.out (by rw [hqV]; omega)).mono ?_
        clear hqV
        rintro e w4 ⟨a1, c1, rfl, hr1, hb4⟩
        rw [HqV.out] at hr1 ⊢
        have HR1 := Lib.hid hr1
        have HTwo4 := Lib.hid (HTwo3.out.after hb4)
        have HV4 := Lib.hid (HV3.out.after hb4)
        have HB4 := Lib.hid (HB3.out.trans (hb4.mono HB3.out.size))
        clear hr1 hb4 HSeq
        have q1 : w4.cell? ⟨w.heap.size, 1, none⟩ = some (.bool yc) := HV4.out.cell 1 rfl
        have q2 : w4.cell? ⟨w.heap.size, 2, none⟩ = some (.int .i64 yk) := HV4.out.cell 2 rfl
        have q3 : w4.cell? ⟨w.heap.size, 3, none⟩ = some (.int .i64 yd) := HV4.out.cell 3 rfl
        go_wp2_with fail
        with_reducible refine (bhist_ok w0.heap.size p2 bm2 s2 (ofP V q) yc yk yd w4 HTwo4.out.r (by omega)).mono ?_
        rintro e w5 ⟨Bs2, rfl, hSeq2, hb5, _⟩
        have HSeq := Lib.hid hSeq2
        have HTwo5 := Lib.hid (HTwo4.out.after hb5)
        have HV5 := Lib.hid (HV4.out.after hb5)
        have HR15 := Lib.hid (HR1.out.after hb5)
        have HB5 := Lib.hid (HB4.out.trans (hb5.mono HB4.out.size))
        clear hSeq2 hb5 q1 q2 q3 HqV
        go_wp2_with fail
        have hqV : ofP (ofP V q) (yc, yk, yd) = ofP V q := by
          have : (yc, yk, yd) = q := HQ.out
          rw [this, ofP_ofP]
        have HqV := Lib.hid hqV
        with_reducible refine (list_ok Bs2 (ofP (ofP V q) (yc, yk, yd)) w5 HSeq.out (by rw [hqV]; omega)).mono ?_
        clear hqV
        rintro e w6 ⟨a2, c2, rfl, hr2, hb6⟩
        rw [HqV.out] at hr2 ⊢
        have HR2 := Lib.hid hr2
        have HTwo6 := Lib.hid (HTwo5.out.after hb6)
        have HV6 := Lib.hid (HV5.out.after hb6)
        have HR16 := Lib.hid (HR15.out.after hb6)
        have HB6 := Lib.hid (HB5.out.trans (hb6.mono HB5.out.size))
        obtain ⟨A, hA⟩ : ∃ A, ofP V q = A := ⟨_, rfl⟩
        have HLt : Hid (A.Pairwise fun a b => a.s < b.s) := by rw [← hA]; exact HGood.out.lt q
        have HLat : Hid (∀ s, latP A q s = latP V q s) := by rw [← hA]; exact fun s => latP_ofP V q s
        rw [hA] at HR2 HR16 HTwo6 hA60 ⊢
        clear hr2 hb6 HSeq HqV hA HGood
        go_wp2_with (go_at_call 15; (with_reducible refine (blen_ok w0.heap.size p2 bm2 s2 A w6 HTwo6.out.r).mono ?_); rintro e w7 ⟨rfl, rfl⟩)
        go_loopw [19] (fun i wr => ∃ j : Nat, j ≤ A.length ∧ i = .int .i64 j ∧ Hid (Below w7.heap.size w7 wr)) (fun i _ => A.length - (intOf i).toNat)
        case atStart => exact ⟨0, by omega, rfl, Below.refl _ _⟩
        case round =>
          obtain ⟨j, hj, rfl, HBq⟩ := hrel
          by_cases hlt : j < A.length
          · have hx := List.getElem?_eq_getElem hlt
            obtain ⟨x, hx'⟩ : ∃ x, A[j] = x := ⟨_, rfl⟩
            rw [hx'] at hx
            have hR1 : RecsAt wr a1 7 encS A := HR16.out.after HBq.out
            have hR2 : RecsAt wr a2 7 encS A := HR2.out.after HBq.out
            obtain ⟨b1, o1, rfl, _⟩ := hR1 (by omega)
            obtain ⟨b2, o2, rfl, _⟩ := hR2 (by omega)
            have HX := Lib.hid hx'
            clear hx'
            obtain ⟨xs, xc, xk, xd, xn, xm, xp⟩ := x
            have s0 : wr.cell? ⟨b1, o1 + j * 7, none⟩ = some (.int .i64 xs) := RecsAt.cell hR1 rfl hlt hx (j := 0) rfl
            have s1 : wr.cell? ⟨b1, o1 + j * 7 + 1, none⟩ = some (.bool xc) := RecsAt.cell hR1 rfl hlt hx (j := 1) rfl
            have s2 : wr.cell? ⟨b1, o1 + j * 7 + 2, none⟩ = some (.int .i64 xk) := RecsAt.cell hR1 rfl hlt hx (j := 2) rfl
            have s3 : wr.cell? ⟨b1, o1 + j * 7 + 3, none⟩ = some (.int .i64 xd) := RecsAt.cell hR1 rfl hlt hx (j := 3) rfl
            have s4 : wr.cell? ⟨b1, o1 + j * 7 + 4, none⟩ = some (.int .i64 xn) := RecsAt.cell hR1 rfl hlt hx (j := 4) rfl
            have s5 : wr.cell? ⟨b1, o1 + j * 7 + 5, none⟩ = some (.int .i64 xm) := RecsAt.cell hR1 rfl hlt hx (j := 5) rfl
            have s6 : wr.cell? ⟨b1, o1 + j * 7 + 6, none⟩ = some (.int .i64 xp) := RecsAt.cell hR1 rfl hlt hx (j := 6) rfl
            have t0 : wr.cell? ⟨b2, o2 + j * 7, none⟩ = some (.int .i64 xs) := RecsAt.cell hR2 rfl hlt hx (j := 0) rfl
            have t1 : wr.cell? ⟨b2, o2 + j * 7 + 1, none⟩ = some (.bool xc) := RecsAt.cell hR2 rfl hlt hx (j := 1) rfl
            have t2 : wr.cell? ⟨b2, o2 + j * 7 + 2, none⟩ = some (.int .i64 xk) := RecsAt.cell hR2 rfl hlt hx (j := 2) rfl
            have t3 : wr.cell? ⟨b2, o2 + j * 7 + 3, none⟩ = some (.int .i64 xd) := RecsAt.cell hR2 rfl hlt hx (j := 3) rfl
            have t4 : wr.cell? ⟨b2, o2 + j * 7 + 4, none⟩ = some (.int .i64 xn) := RecsAt.cell hR2 rfl hlt hx (j := 4) rfl
            have t5 : wr.cell? ⟨b2, o2 + j * 7 + 5, none⟩ = some (.int .i64 xm) := RecsAt.cell hR2 rfl hlt hx (j := 5) rfl
            have t6 : wr.cell? ⟨b2, o2 + j * 7 + 6, none⟩ = some (.int .i64 xp) := RecsAt.cell hR2 rfl hlt hx (j := 6) rfl
            have hne := fun w => ver_neq xs xc xk xd xn xm xp xs xc xk xd xn xm xp w
            rw [decide_eq_true rfl] at hne
            have i1 : (0 : Int) ≤ (j : Int) := by omega
            have i2 : (j : Int) < (A.length : Int) := by omega
            have HB2 : ∀ n, Hid (Below w7.heap.size w7 (wr.drewN n)) := fun n => HBq.out.trans ((below_draws wr n).mono HBq.out.size)
            by_cases hj0 : j = 0
            · have d0 : decide ((0 : Int) < (j : Int)) = false := decide_eq_false (by omega)
              have d1 : decide (0 < j) = false := decide_eq_false (by omega)
              clear hx hR1 hR2 hj0
              go_wp2_with (go_quiet (fail))
              go_roundw
              case rel => exact ⟨j + 1, by omega, by go_num, HB2 _⟩
              case measure => simp [intOf]; omega
            · have hlt' : j - 1 < A.length := by omega
              have hy := List.getElem?_eq_getElem hlt'
              obtain ⟨y, hy'⟩ : ∃ y, A[j - 1] = y := ⟨_, rfl⟩
              have hs : y.s < xs := by
                have := List.pairwise_iff_getElem.1 HLt.out (j - 1) j hlt' hlt (by omega)
                rw [hy', HX.out] at this
                exact this
              rw [hy'] at hy
              have y0 : wr.cell? ⟨b1, o1 + (j - 1) * 7, none⟩ = some (.int .i64 y.s) := RecsAt.cell hR1 rfl hlt' hy (j := 0) rfl
              have d0 : decide ((0 : Int) < (j : Int)) = true := decide_eq_true (by omega)
              have d1 : decide (0 < j) = true := decide_eq_true (by omega)
              have d2 : decide (xs ≤ y.s) = false := decide_eq_false (by omega)
              have i3 : (0 : Int) ≤ (j : Int) - 1 := by omega
              have i4 : (j : Int) - 1 < (A.length : Int) := by omega
              obtain ⟨z, hz⟩ : ∃ z, y.s = z := ⟨_, rfl⟩
              rw [hz] at y0 d2
              clear hx hR1 hR2 hy hy' hs hz hj0 hlt'
              go_wp2_with (go_quiet (fail))
              go_roundw
              case rel => exact ⟨j + 1, by omega, by go_num, HB2 _⟩
              case measure => simp [intOf]; omega
          · have HTwo7 := Lib.hid (HTwo6.out.after HBq.out)
            have HV7 := Lib.hid (HV6.out.after HBq.out)
            have HB7 := Lib.hid (HB6.out.trans (HBq.out.mono HB6.out.size))
            have q0 : wr.cell? ⟨w.heap.size, 0, none⟩ = some (.int .i64 ys) := HV7.out.cell 0 rfl
            have q1 : wr.cell? ⟨w.heap.size, 1, none⟩ = some (.bool yc) := HV7.out.cell 1 rfl
            have q2 : wr.cell? ⟨w.heap.size, 2, none⟩ = some (.int .i64 yk) := HV7.out.cell 2 rfl
            have q3 : wr.cell? ⟨w.heap.size, 3, none⟩ = some (.int .i64 yd) := HV7.out.cell 3 rfl
            clear HTwo6 HV6 HBq HR16 HR2
            go_wp2_with fail
            with_reducible refine (lat_ok w0.heap.size p1 bm1 s1 V yc yk yd ys wr HTwo7.out.l (by omega)).mono ?_
            rintro e w8 ⟨rfl, hb8⟩
            have HO : Hid (latP V (yc, yk, yd) ys = latP A (yc, yk, yd) ys) := by
              have : (yc, yk, yd) = q := HQ.out
              show _ = _
              rw [this]
              exact (HLat.out ys).symm
            rw [HO.out]
            unfold latV
            obtain ⟨⟨os, oc, ok, od, on, om, op⟩, ho⟩ : ∃ o, (latP A (yc, yk, yd) ys).getD default = o := ⟨_, rfl⟩
            obtain ⟨is, his⟩ : ∃ is, (latP A (yc, yk, yd) ys).isSome = is := ⟨_, rfl⟩
            rw [ho, his]
            have HOo := Lib.hid ho
            have HOi := Lib.hid his
            dsimp only [encS]
            obtain ⟨w9, hww9⟩ : ∃ W, w8.alloc (.cells #[.int .i64 os, .bool oc, .int .i64 ok, .int .i64 od, .int .i64 on, .int .i64 om, .int .i64 op] 26) = W := ⟨_, rfl⟩
            have hbw9 : Below w8.heap.size w8 w9 := by rw [← hww9]; exact (Below.refl _ _).alloc (Nat.le_refl _) _
            have hkw9 : Hid (Blk w9 w8.heap.size #[.int .i64 os, .bool oc, .int .i64 ok, .int .i64 od, .int .i64 on, .int .i64 om, .int .i64 op] 26) := by rw [← hww9]; exact Blk.new _ _ _
            have hzw9 := hbw9.size
            have HW9 := Lib.hid hww9
            have hb89 := hb8.trans (hbw9.mono hb8.size)
            have HTwo9 := Lib.hid (HTwo7.out.after hb89)
            have HV9 := Lib.hid (HV7.out.after hb89)
            have HB9 := Lib.hid (HB7.out.trans (hb89.mono HB7.out.size))
            have q0 : w9.cell? ⟨w.heap.size, 0, none⟩ = some (.int .i64 ys) := HV9.out.cell 0 rfl
            have q1 : w9.cell? ⟨w.heap.size, 1, none⟩ = some (.bool yc) := HV9.out.cell 1 rfl
            have q2 : w9.cell? ⟨w.heap.size, 2, none⟩ = some (.int .i64 yk) := HV9.out.cell 2 rfl
            have q3 : w9.cell? ⟨w.heap.size, 3, none⟩ = some (.int .i64 yd) := HV9.out.cell 3 rfl
            rw [← hww9] at q0 q1 q2 q3
            clear hww9 hb8 hbw9 hb89 ho his HTwo7 HV7 HO
            go_wp2_with fail
            rw [HW9.out]
            clear q0 q1 q2 q3
            with_reducible refine (lat_ok w0.heap.size p2 bm2 s2 A yc yk yd ys w9 HTwo9.out.r (by omega)).mono ?_
            rintro e w10 ⟨rfl, hb10⟩
            unfold latV
            rw [HOo.out, HOi.out]
            dsimp only [encS]
            obtain ⟨w11, hww11⟩ : ∃ W, w10.alloc (.cells #[.int .i64 os, .bool oc, .int .i64 ok, .int .i64 od, .int .i64 on, .int .i64 om, .int .i64 op] 26) = W := ⟨_, rfl⟩
            have hbw11 : Below w10.heap.size w10 w11 := by rw [← hww11]; exact (Below.refl _ _).alloc (Nat.le_refl _) _
            have hkw11 : Hid (Blk w11 w10.heap.size #[.int .i64 os, .bool oc, .int .i64 ok, .int .i64 od, .int .i64 on, .int .i64 om, .int .i64 op] 26) := by rw [← hww11]; exact Blk.new _ _ _
            have hzw11 := hbw11.size
            have HW11 := Lib.hid hww11
            have hb1011 := hb10.trans (hbw11.mono hb10.size)
            have hK9 := hkw9.out.after hb1011
            have HB11 := Lib.hid (HB9.out.trans (hb1011.mono HB9.out.size))
            have s0 : w11.cell? ⟨w8.heap.size, 0, none⟩ = some (.int .i64 os) := (hK9).cell 0 rfl
            have s1 : w11.cell? ⟨w8.heap.size, 1, none⟩ = some (.bool oc) := (hK9).cell 1 rfl
            have s2 : w11.cell? ⟨w8.heap.size, 2, none⟩ = some (.int .i64 ok) := (hK9).cell 2 rfl
            have s3 : w11.cell? ⟨w8.heap.size, 3, none⟩ = some (.int .i64 od) := (hK9).cell 3 rfl
            have s4 : w11.cell? ⟨w8.heap.size, 4, none⟩ = some (.int .i64 on) := (hK9).cell 4 rfl
            have s5 : w11.cell? ⟨w8.heap.size, 5, none⟩ = some (.int .i64 om) := (hK9).cell 5 rfl
            have s6 : w11.cell? ⟨w8.heap.size, 6, none⟩ = some (.int .i64 op) := (hK9).cell 6 rfl
            have t0 : w11.cell? ⟨w10.heap.size, 0, none⟩ = some (.int .i64 os) := (hkw11.out).cell 0 rfl
            have t1 : w11.cell? ⟨w10.heap.size, 1, none⟩ = some (.bool oc) := (hkw11.out).cell 1 rfl
            have t2 : w11.cell? ⟨w10.heap.size, 2, none⟩ = some (.int .i64 ok) := (hkw11.out).cell 2 rfl
            have t3 : w11.cell? ⟨w10.heap.size, 3, none⟩ = some (.int .i64 od) := (hkw11.out).cell 3 rfl
            have t4 : w11.cell? ⟨w10.heap.size, 4, none⟩ = some (.int .i64 on) := (hkw11.out).cell 4 rfl
            have t5 : w11.cell? ⟨w10.heap.size, 5, none⟩ = some (.int .i64 om) := (hkw11.out).cell 5 rfl
            have t6 : w11.cell? ⟨w10.heap.size, 6, none⟩ = some (.int .i64 op) := (hkw11.out).cell 6 rfl
            rw [← hww11] at s0 s1 s2 s3 s4 s5 s6 t0 t1 t2 t3 t4 t5 t6
            have heq := fun w => ver_eql os oc ok od on om op os oc ok od on om op w
            rw [decide_eq_true rfl] at heq
            clear hww11 hb10 hbw11 hb1011 hK9
            go_wp2_with fail
            rw [HW11.out]
            with_reducible refine (awake_ok12 _).mono ?_
            rintro e w12 ⟨rfl, hb12⟩
            go_wp2_with fail
            go_ret
            exact ⟨rfl, HB11.out.trans (hb12.mono HB11.out.size)⟩


set_option maxRecDepth 100000 in
open Go.ChangeShapes Go.WideShapes Go.ChangeAt in
theorem walk_BitempApart {H : Type} (enc : TypeId × Value → H) (base : Nat) (W : World) (v : Value) (d : DataW H) (p : List MemPlace) (h : DataW.Trod enc Try.prog W 0 (fun _ => true) true 22 v d p) (ok : Value.okWide Try.prog W .any base 22 v)
    (v1 : Value) (d1 : DataW H) (p1 : List MemPlace) (h1 : DataW.Trod enc Try.prog W 0 (fun _ => true) true 26 v1 d1 p1) (ok1 : Value.okWide Try.prog W .any base 26 v1) :
    Calls Try.prog 3 #[v, v1] W fun e w' => e = .returned (.bool true) ∧ Below W.heap.size W w' := by
  obtain ⟨a, cap, l, rfl, hl, hc, _, hT⟩ := ops_arg h ok
  obtain ⟨x, rfl, hx⟩ := ver_arg h1 ok1
  exact apart_law a cap l x (by omega) hx W hT

end Go.Proofs.Ytkloijkfaooodaa
