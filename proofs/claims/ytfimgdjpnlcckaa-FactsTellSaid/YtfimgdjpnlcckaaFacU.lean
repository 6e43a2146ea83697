/- The statement FactsTell: its walk. -/
import Derived.Test.YtfimgdjpnlcckaaFacT
import Derived.Deep.RegionHeld3
import Derived.Deep.DrawnRows
namespace Go.Proofs.Ytfimgdjpnlcckaa
open Go.RowKit
set_option linter.unusedVariables false
set_option linter.unusedSimpArgs false

theorem told_both (p ba bc : Nat) (A : List Fx) (C : List Ch) (x : Tl) (hx : x.Ok) (wr : World) (h : FactsAt wr p ba bc A C) (W : World) (hW : Below wr.heap.size wr W) :
    Calls Try.prog 11 #[.pointer (some ⟨p, 0, none⟩), .agg (encT x).toArray] W fun e w' => e = .returned (.int .i64 (wrongT x)) ∧ Turn [ba, bc] wr w' ∧ FactsAt w' p ba bc (tellS (A, C) x).1 (tellS (A, C) x).2 :=
  (tell_ok p ba bc A C x hx W (h.after hW)).mono fun e w' ⟨h1, h2, h3⟩ => ⟨h1, (Turn.of_below hW).trans h2, h3⟩

set_option maxHeartbeats 8000000 in
set_option maxRecDepth 100000 in
theorem tell_law (a : Option Addr) (cap : Nat) (l : List Tl) (hl : l.length ≤ 9223372036854775807) (w : World) (h : ToldAt w a l) :
    Calls Try.prog 3 #[.slice a l.length cap] w (SameEnd w true) := by
  have HR := Lib.hid h
  clear h
  go_enter Try.func3, Try.ntmps3
  go_wp2_with fail
  with_reducible refine (new_ok _).mono ?_
  rintro e w1 ⟨p, ba, bc, rfl, hF, hb, g1, g2, g3⟩
  have HF := Lib.hid hF
  have HB := Lib.hid hb
  clear hF hb
  by_cases h60 : 60 < l.length
  · have h60' : decide (60 < l.length) = true := decide_eq_true h60
    have h61' : decide (60 < (l.length : Int)) = true := decide_eq_true (by omega)
    clear h60
    go_wp2_with fail
    with_reducible refine (awake_ok _).mono ?_
    rintro e w2 ⟨rfl, hb2⟩
    go_wp2_with fail
    go_ret
    exact ⟨rfl, HB.out.trans (hb2.mono HB.out.size)⟩
  · have h61' : decide (60 < (l.length : Int)) = false := decide_eq_false (by omega)
    have h60' : l.length ≤ 60 := by omega
    clear h60
    go_wp2_with fail
    go_loopw [4] (fun i wr => ∃ j : Nat, j ≤ l.length ∧ i = .int .i64 j ∧ Hid (FactsAt wr p ba bc (madeS (l.take j)).1 (madeS (l.take j)).2) ∧ Hid (Below w.heap.size w wr)) (fun i _ => l.length - (intOf i).toNat)
    case atStart => exact ⟨0, by omega, rfl, HF, HB⟩
    case round =>
      obtain ⟨j, hj, rfl, HFr, HBr⟩ := hrel
      by_cases hlt : j < l.length
      · have hx := List.getElem?_eq_getElem hlt
        obtain ⟨x, hy⟩ : ∃ x, l[j] = x := ⟨_, rfl⟩
        have hxo : x.Ok := by rw [← hy]; exact HR.out.ok _ (List.getElem_mem _)
        have hT : l.take (j + 1) = l.take j ++ [l[j]] := List.take_succ_eq_append_getElem hlt
        rw [hy] at hx hT
        have HX := Lib.hid hxo
        have HT := Lib.hid hT
        have hR : RecsAt wr a 6 encT l := (HR.out.after HBr.out).at_
        obtain ⟨b, o, rfl, _⟩ := hR (by omega)
        have t0 : wr.cell? ⟨b, o + j * 6, none⟩ = some (.bool x.c) := RecsAt.cell hR rfl hlt hx (j := 0) rfl
        have t1 : wr.cell? ⟨b, o + j * 6 + 1, none⟩ = some (.int .i64 x.k) := RecsAt.cell hR rfl hlt hx (j := 1) rfl
        have t2 : wr.cell? ⟨b, o + j * 6 + 2, none⟩ = some (.int .i64 x.d) := RecsAt.cell hR rfl hlt hx (j := 2) rfl
        have t3 : wr.cell? ⟨b, o + j * 6 + 3, none⟩ = some (.int .i64 x.n) := RecsAt.cell hR rfl hlt hx (j := 3) rfl
        have t4 : wr.cell? ⟨b, o + j * 6 + 4, none⟩ = some (.int .i64 x.m) := RecsAt.cell hR rfl hlt hx (j := 4) rfl
        have t5 : wr.cell? ⟨b, o + j * 6 + 5, none⟩ = some (.int .i64 x.p) := RecsAt.cell hR rfl hlt hx (j := 5) rfl
        clear hx hR hy hT hxo
        obtain ⟨xc, xk, xd, xn, xm, xp⟩ := x
        dsimp only at t0 t1 t2 t3 t4 t5
        have HC := Lib.hid (told_both p ba bc _ _ _ HX.out _ HFr.out)
        have HW := Lib.hid (wrong_ok _ HX.out)
        dsimp only [encT] at HC HW
        have i1 : (0 : Int) ≤ (j : Int) := by omega
        have i2 : (j : Int) < (l.length : Int) := by omega
        go_wp2_with fail
        have hbw : b < w.heap.size := by
          obtain ⟨b', o', e, hb'⟩ := HR.out.at_.lt (by omega) (by simp [recF, encT])
          cases e
          exact hb'
        have zr := HBr.out.size
        have hnb : ∀ k ∈ [ba, bc], k ≠ b := by
          intro k hk
          simp only [List.mem_cons, List.not_mem_nil, or_false] at hk
          omega
        have HS := Lib.hid (show ∀ w' : World, (∀ q, w'.cell? ⟨b, q, none⟩ = wr.cell? ⟨b, q, none⟩) → w'.cell? ⟨b, o + j * 6, none⟩ = some (.bool xc) ∧ w'.cell? ⟨b, o + j * 6 + 1, none⟩ = some (.int .i64 xk) ∧ w'.cell? ⟨b, o + j * 6 + 2, none⟩ = some (.int .i64 xd) ∧ w'.cell? ⟨b, o + j * 6 + 3, none⟩ = some (.int .i64 xn) ∧ w'.cell? ⟨b, o + j * 6 + 4, none⟩ = some (.int .i64 xm) ∧ w'.cell? ⟨b, o + j * 6 + 5, none⟩ = some (.int .i64 xp) from fun w' h => ⟨(h _).trans t0, (h _).trans t1, (h _).trans t2, (h _).trans t3, (h _).trans t4, (h _).trans t5⟩)
        have HK1 : Hid (∀ w' : World, Below wr.heap.size wr w' → ∀ q, w'.cell? ⟨b, q, none⟩ = wr.cell? ⟨b, q, none⟩) := fun w' h q => h.cell (p := ⟨b, q, none⟩) (by show b < _; omega)
        have HK2 : Hid (∀ w' : World, Turn [ba, bc] wr w' → ∀ q, w'.cell? ⟨b, q, none⟩ = wr.cell? ⟨b, q, none⟩) := fun w' h q => World.cell?_of_block (a := ⟨b, q, none⟩) (h.block b (by omega) fun e => hnb b e rfl)
        have hd0 := HK1.out wr.drew (Below.refl _ _).drew
        clear hnb t0 t1 t2 t3 t4 t5
        go_region_held3 (fun w' => w'.cell? ⟨b, o + j * 6, none⟩ = some (.bool xc) ∧ w'.cell? ⟨b, o + j * 6 + 1, none⟩ = some (.int .i64 xk) ∧ w'.cell? ⟨b, o + j * 6 + 2, none⟩ = some (.int .i64 xd) ∧ w'.cell? ⟨b, o + j * 6 + 3, none⟩ = some (.int .i64 xn) ∧ w'.cell? ⟨b, o + j * 6 + 4, none⟩ = some (.int .i64 xm) ∧ w'.cell? ⟨b, o + j * 6 + 5, none⟩ = some (.int .i64 xp))
          (first | with_reducible exact HS.out _ hd0 | with_reducible exact HS.out _ hd5 | with_reducible exact HS.out _ hd6)
          (first
            | (go_at_call 11; refine (HC.out _ (by first | exact (Below.refl _ _).drew | exact hb6)).mono ?_; rintro e w5 ⟨rfl, ht5, hF5⟩; have hd5 := HK2.out _ ht5)
            | (go_at_call 12; refine (HW.out _).mono ?_; rintro e w6 ⟨rfl, hb6'⟩; have hb6 : Below wr.heap.size wr w6 := ((Below.refl _ wr).drew).trans hb6'; have hd6 := HK1.out _ hb6)
            | (go_at_call 12; refine (HW.out _).mono ?_; rintro e w6 ⟨rfl, hb6'⟩; have ht6 : Turn [ba, bc] wr w6 := ht5.trans (Turn.of_below hb6'); have hd6 := HK2.out _ ht6; have hF6 := hF5.after hb6'))
        all_goals
          have HE : ∀ wz : World, FactsAt wz p ba bc (tellS (madeS (l.take j)) ⟨xc, xk, xd, xn, xm, xp⟩).1 (tellS (madeS (l.take j)) ⟨xc, xk, xd, xn, xm, xp⟩).2 → Turn [ba, bc] wr wz → Hid (FactsAt wz p ba bc (madeS (l.take (j + 1))).1 (madeS (l.take (j + 1))).2) ∧ Hid (Below w.heap.size w wz) := fun wz hf ht => by
            refine ⟨?_, HBr.out.trans (ht.below zr (by simp [g2, g3]))⟩
            show FactsAt _ _ _ _ _ _
            rw [HT.out, madeS_snoc]
            exact hf
          first
            | (have HFZ := Lib.hid (HE _ hF6 ht6); clear HE hF6 ht6 hF5 ht5 hd5 hd6 hb6' hd0)
            | (have HFZ := Lib.hid (HE _ hF5 ht5); clear HE hF5 ht5 hd5 hd6 hb6 hb6' hd0)
          go_wp2_with fail
          go_roundw
          case rel => exact ⟨j + 1, by omega, by go_num, HFZ.out.1, HFZ.out.2⟩
          case measure => simp [intOf]; omega
      · obtain rfl : j = l.length := by omega
        rw [List.take_length] at HFr
        have hn := madeS_len l
        have HP := Lib.hid (plS_eq l)
        go_wp2_with fail
        with_reducible refine (plain_ok a cap l (by omega) _ (HR.out.after HBr.out)).mono ?_
        rintro e w2 ⟨a1, c1, a2, c2, rfl, hr1, hr2, hb2⟩
        rw [HP.out] at hr1 hr2 ⊢
        dsimp only at hr1 hr2 ⊢
        rw [List.length_map, List.length_map]
        have HF2 := Lib.hid (HFr.out.after hb2)
        have HB2 := Lib.hid (HBr.out.trans (hb2.mono HBr.out.size))
        have R1 := Lib.hid hr1
        have R2 := Lib.hid hr2
        clear hr1 hr2 hb2
        obtain ⟨S, hS⟩ : ∃ S, madeS l = S := ⟨_, rfl⟩
        rw [hS] at HF2 R1 R2 hn ⊢
        clear hS HP HFr
        go_wp2_with fail
        with_reducible refine (listX_any _ S.1 _ (seqX_ok p ba bc S.1 S.2 _ HF2.out (by omega)) (by omega)).mono ?_
        rintro e w3 ⟨a3, c3, rfl, hr3, hb3⟩
        have HF3 := Lib.hid (HF2.out.after hb3)
        have HB3 := Lib.hid (HB2.out.trans (hb3.mono HB2.out.size))
        have R13 := Lib.hid (R1.out.after hb3)
        have R23 := Lib.hid (R2.out.after hb3)
        have R3 := Lib.hid hr3
        clear hr3 hb3 R1 R2
        go_wp2_with fail
        with_reducible refine (listH_any _ S.2 _ (seqH_ok p ba bc S.1 S.2 _ HF3.out (by omega)) (by omega)).mono ?_
        rintro e w4 ⟨a4, c4, rfl, hr4, hb4⟩
        have HB4 := Lib.hid (HB3.out.trans (hb4.mono HB3.out.size))
        have R14 := Lib.hid (R13.out.after hb4)
        have R24 := Lib.hid (R23.out.after hb4)
        have R34 := Lib.hid (R3.out.after hb4)
        have R4 := Lib.hid hr4
        clear hr4 hb4 R13 R23 R3
        go_wp2_with fail
        go_loopw [9] (fun i wr => ∃ j : Nat, j ≤ S.1.length ∧ i = .int .i64 j ∧ Hid (Below w4.heap.size w4 wr)) (fun i _ => S.1.length - (intOf i).toNat)
        case atStart => exact ⟨0, by omega, rfl, Below.refl _ _⟩
        case round =>
          obtain ⟨j, hj, rfl, HBr⟩ := hrel
          by_cases hlt : j < S.1.length
          · have hx := List.getElem?_eq_getElem hlt
            obtain ⟨x, hx'⟩ : ∃ x, S.1[j] = x := ⟨_, rfl⟩
            rw [hx'] at hx
            have hy : (S.1.map Fx.fc)[j]? = some (Fx.fc x) := by rw [List.getElem?_map, hx]; rfl
            have hR1 : RecsAt wr a3 4 encX S.1 := R34.out.after HBr.out
            have hR2 : RecsAt wr a1 5 encF (S.1.map Fx.fc) := R14.out.after HBr.out
            obtain ⟨b1, o1, rfl, _⟩ := hR1 (by omega)
            obtain ⟨b2, o2, rfl, _⟩ := hR2 (by rw [List.length_map]; omega)
            clear hx'
            obtain ⟨xk, xd, xn, xm⟩ := x
            have q : wr.cell? ⟨b1, o1 + j * 4, none⟩ = some (.int .i64 xk) := RecsAt.cell hR1 rfl hlt hx (j := 0) rfl
            have q0 : wr.cell? ⟨b1, o1 + j * 4 + 1, none⟩ = some (.int .i64 xd) := RecsAt.cell hR1 rfl hlt hx (j := 1) rfl
            have q1 : wr.cell? ⟨b1, o1 + j * 4 + 2, none⟩ = some (.int .i64 xn) := RecsAt.cell hR1 rfl hlt hx (j := 2) rfl
            have q2 : wr.cell? ⟨b1, o1 + j * 4 + 3, none⟩ = some (.int .i64 xm) := RecsAt.cell hR1 rfl hlt hx (j := 3) rfl
            have r0 : wr.cell? ⟨b2, o2 + j * 5, none⟩ = some (.int .i64 xk) := RecsAt.cell hR2 rfl (by rw [List.length_map]; exact hlt) hy (j := 0) rfl
            have r1 : wr.cell? ⟨b2, o2 + j * 5 + 1, none⟩ = some (.int .i64 xd) := RecsAt.cell hR2 rfl (by rw [List.length_map]; exact hlt) hy (j := 1) rfl
            have r2 : wr.cell? ⟨b2, o2 + j * 5 + 2, none⟩ = some (.int .i64 xn) := RecsAt.cell hR2 rfl (by rw [List.length_map]; exact hlt) hy (j := 2) rfl
            have r3 : wr.cell? ⟨b2, o2 + j * 5 + 3, none⟩ = some (.int .i64 xm) := RecsAt.cell hR2 rfl (by rw [List.length_map]; exact hlt) hy (j := 3) rfl
            have hne := fun w => ratio_neq xn xm xn xm w
            rw [decide_eq_true ⟨rfl, rfl⟩] at hne
            clear hx hy hR1 hR2
            have i1 : (0 : Int) ≤ (j : Int) := by omega
            have i2 : (j : Int) < (S.1.length : Int) := by omega
            go_wp2_with (go_quiet (fail))
            have HB2 : ∀ n, Hid (Below w4.heap.size w4 (wr.drewN n)) := fun n => HBr.out.trans ((below_draws wr n).mono HBr.out.size)
            go_roundw
            case rel => exact ⟨j + 1, by omega, by go_num, HB2 _⟩
            case measure => simp [intOf]; omega
          · obtain rfl : j = S.1.length := by omega
            have HBo := Lib.hid HBr.out
            obtain ⟨wo, rfl⟩ : ∃ wo : World, wo = wr := ⟨_, rfl⟩
            go_wp2_with fail
            go_loopw [10] (fun i wr => ∃ j : Nat, j ≤ S.2.length ∧ i = .int .i64 j ∧ Hid (Below w4.heap.size w4 wr)) (fun i _ => S.2.length - (intOf i).toNat)
            case atStart => exact ⟨0, by omega, rfl, HBo.out⟩
            case round =>
              obtain ⟨j, hj, rfl, HBr⟩ := hrel
              by_cases hlt : j < S.2.length
              · have hx := List.getElem?_eq_getElem hlt
                obtain ⟨x, hx'⟩ : ∃ x, S.2[j] = x := ⟨_, rfl⟩
                rw [hx'] at hx
                have hy : (S.2.map Ch.fc)[j]? = some (Ch.fc x) := by rw [List.getElem?_map, hx]; rfl
                have hR1 : RecsAt wr a4 3 encH S.2 := R4.out.after HBr.out
                have hR2 : RecsAt wr a2 5 encF (S.2.map Ch.fc) := R24.out.after HBr.out
                obtain ⟨b1, o1, rfl, _⟩ := hR1 (by omega)
                obtain ⟨b2, o2, rfl, _⟩ := hR2 (by rw [List.length_map]; omega)
                clear hx'
                obtain ⟨xk, xd, xp⟩ := x
                have q : wr.cell? ⟨b1, o1 + j * 3, none⟩ = some (.int .i64 xk) := RecsAt.cell hR1 rfl hlt hx (j := 0) rfl
                have q0 : wr.cell? ⟨b1, o1 + j * 3 + 1, none⟩ = some (.int .i64 xd) := RecsAt.cell hR1 rfl hlt hx (j := 1) rfl
                have q1 : wr.cell? ⟨b1, o1 + j * 3 + 2, none⟩ = some (.int .i64 xp) := RecsAt.cell hR1 rfl hlt hx (j := 2) rfl
                have r0 : wr.cell? ⟨b2, o2 + j * 5, none⟩ = some (.int .i64 xk) := RecsAt.cell hR2 rfl (by rw [List.length_map]; exact hlt) hy (j := 0) rfl
                have r1 : wr.cell? ⟨b2, o2 + j * 5 + 1, none⟩ = some (.int .i64 xd) := RecsAt.cell hR2 rfl (by rw [List.length_map]; exact hlt) hy (j := 1) rfl
                have r2 : wr.cell? ⟨b2, o2 + j * 5 + 4, none⟩ = some (.int .i64 xp) := RecsAt.cell hR2 rfl (by rw [List.length_map]; exact hlt) hy (j := 4) rfl
                clear hx hy hR1 hR2
                have i1 : (0 : Int) ≤ (j : Int) := by omega
                have i2 : (j : Int) < (S.2.length : Int) := by omega
                go_wp2_with (go_quiet (fail))
                have HB2 : ∀ n, Hid (Below w4.heap.size w4 (wr.drewN n)) := fun n => HBr.out.trans ((below_draws wr n).mono HBr.out.size)
                go_roundw
                case rel => exact ⟨j + 1, by omega, by go_num, HB2 _⟩
                case measure => simp [intOf]; omega
              · obtain rfl : j = S.2.length := by omega
                go_wp2_with fail
                with_reducible refine (awake_ok _).mono ?_
                rintro e w9 ⟨rfl, hb9⟩
                go_wp2_with fail
                go_ret
                exact ⟨rfl, (HB4.out.trans (HBr.out.mono HB4.out.size)).trans (hb9.mono (HB4.out.trans (HBr.out.mono HB4.out.size)).size)⟩

set_option maxRecDepth 100000 in
open Go.ChangeShapes Go.WideShapes Go.ChangeAt in
theorem walk_FactsTell {H : Type} (enc : TypeId × Value → H) (base : Nat) (W : World) (v : Value) (d : DataW H) (p : List MemPlace) (h : DataW.Trod enc Try.prog W 0 (fun _ => true) true 22 v d p) (ok : Value.okWide Try.prog W .any base 22 v) :
    Calls Try.prog 3 #[v] W fun e w' => e = .returned (.bool true) ∧ Below W.heap.size W w' := by
  obtain ⟨a, cap, l, rfl, hl, hc, _, hT⟩ := told_arg h ok
  exact tell_law a cap l (by omega) W hT

end Go.Proofs.Ytfimgdjpnlcckaa
