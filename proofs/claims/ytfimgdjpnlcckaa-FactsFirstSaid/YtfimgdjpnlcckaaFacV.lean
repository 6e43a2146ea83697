/- The statement FactsKnow: its walk. -/
import Derived.Test.YtfimgdjpnlcckaaFacR
namespace Go.Proofs.Ytfimgdjpnlcckaa
open Go.RowKit
set_option linter.unusedVariables false
set_option linter.unusedSimpArgs false

theorem getX_of (A : List Fx) (q : KD) : ∃ k d p : Int, getV (getK Fc.ky (A.map Fx.fc) q) = .tuple #[.agg #[.int .i64 k, .int .i64 d, .int .i64 (knownX A q).1.1, .int .i64 (knownX A q).1.2, .int .i64 p], .bool (knownX A q).2] := by
  rw [get_map (ky := Fx.ky) (fun _ => rfl)]
  unfold knownX
  cases getK Fx.ky A q with
  | none => exact ⟨0, 0, 0, rfl⟩
  | some x => exact ⟨x.k, x.d, 0, rfl⟩
theorem getH_of (C : List Ch) (q : KD) : ∃ k d n m : Int, getV (getK Fc.ky (C.map Ch.fc) q) = .tuple #[.agg #[.int .i64 k, .int .i64 d, .int .i64 n, .int .i64 m, .int .i64 (knownH C q).1], .bool (knownH C q).2] := by
  rw [get_map (ky := Ch.ky) (fun _ => rfl)]
  unfold knownH
  cases getK Ch.ky C q with
  | none => exact ⟨0, 0, 0, 0, rfl⟩
  | some x => exact ⟨x.k, x.d, 0, 0, rfl⟩
theorem dayV_of (C : List Ch) (k a b p : Int) : ((firstF (C.map Ch.fc) k a b p).map Fc.d) = (firstH C k a b p).map Ch.d := by
  rw [first_map]
  cases firstH C k a b p <;> rfl

set_option maxHeartbeats 8000000 in
set_option maxRecDepth 100000 in
theorem know_law (a : Option Addr) (cap : Nat) (l : List Tl) (t0 t1 t2 t3 : Int) (hl : l.length ≤ 9223372036854775807) (w : World) (h : ToldAt w a l) :
    Calls Try.prog 5 #[.slice a l.length cap, .agg #[.int .i64 t0, .int .i64 t1, .int .i64 t2, .int .i64 t3]] w (SameEnd w true) := by
  obtain ⟨w0, hw0⟩ : ∃ w0, w.alloc (.cells #[.int .i64 t0, .int .i64 t1, .int .i64 t2, .int .i64 t3] 53) = w0 := ⟨_, rfl⟩
  have hb0 : Below w.heap.size w w0 := by rw [← hw0]; exact (Below.refl _ _).alloc (Nat.le_refl _) _
  have K0 : Hid (Blk w0 w.heap.size #[.int .i64 t0, .int .i64 t1, .int .i64 t2, .int .i64 t3] 53) := by rw [← hw0]; exact Blk.new _ _ _
  have HR := Lib.hid (h.after hb0)
  have HB0 := Lib.hid hb0
  clear h hb0
  go_enter Try.func5, Try.ntmps5
  go_wp2_with fail
  clear hw0
  with_reducible refine (made_ok a cap l hl _ HR.out).mono ?_
  rintro e w1 ⟨p, ba, bc, rfl, hF, hb, g1, g2, g3⟩
  have HF := Lib.hid hF
  have HB := Lib.hid (HB0.out.trans (hb.mono HB0.out.size))
  have K1 := Lib.hid (K0.out.after hb)
  have HR1 := Lib.hid (HR.out.after hb)
  clear hF hb K0 HR
  by_cases h60 : 60 < l.length
  · have h60' : decide (60 < l.length) = true := decide_eq_true h60
    have h61' : decide (60 < (l.length : Int)) = true := decide_eq_true (by omega)
    clear h60
    go_wp2_with fail
    with_reducible refine (awake_ok _).mono ?_
    rintro e w2 ⟨rfl, hb2⟩
    go_wp2_with fail
    go_ret
    exact ⟨rfl, HB.out.trans (hb2.mono HB.out.size)⟩
  · have h61' : decide (60 < (l.length : Int)) = false := decide_eq_false (by omega)
    have h60' : l.length ≤ 60 := by omega
    clear h60
    have hn := madeS_len l
    have HP := Lib.hid (plS_eq l)
    go_wp2_with fail
    with_reducible refine (plain_ok a cap l (by omega) _ HR1.out).mono ?_
    rintro e w2 ⟨a1, c1, a2, c2, rfl, hr1, hr2, hb2⟩
    rw [HP.out] at hr1 hr2 ⊢
    dsimp only at hr1 hr2 ⊢
    obtain ⟨S, hS⟩ : ∃ S, madeS l = S := ⟨_, rfl⟩
    rw [hS] at HF hr1 hr2 hn ⊢
    obtain ⟨gk, gd, gp, hgx⟩ := getX_of S.1 (t0, t1)
    obtain ⟨hk, hd, hn', hm, hgh⟩ := getH_of S.2 (t0, t1)
    have HGF := Lib.hid (dayV_of S.2 t0 t1 t2 t3)
    obtain ⟨⟨⟨vn, vm⟩, vb⟩, hkx⟩ : ∃ V, knownX S.1 (t0, t1) = V := ⟨_, rfl⟩
    obtain ⟨⟨pn, pb⟩, hkh⟩ : ∃ V, knownH S.2 (t0, t1) = V := ⟨_, rfl⟩
    rw [hkx] at hgx
    rw [hkh] at hgh
    dsimp only at hgx hgh
    have HGX := Lib.hid hgx
    have HGH := Lib.hid hgh
    have HKX := Lib.hid hkx
    have HKH := Lib.hid hkh
    obtain ⟨dn, db, hdv⟩ : ∃ dn db, dayV ((firstH S.2 t0 t1 t2 t3).map Ch.d) = .tuple #[.int .i64 dn, .bool db] := ⟨_, _, rfl⟩
    have HDV := Lib.hid hdv
    clear hgx hgh hkx hkh hS hdv
    have HF2 := Lib.hid (HF.out.after hb2)
    have HB2 := Lib.hid (HB.out.trans (hb2.mono HB.out.size))
    have K2 := Lib.hid (K1.out.after hb2)
    have R12 := Lib.hid hr1
    have R22 := Lib.hid hr2
    have q0 : w2.cell? ⟨w.heap.size, 0, none⟩ = some (.int .i64 t0) := (K2.out).cell 0 rfl
    have q1 : w2.cell? ⟨w.heap.size, 1, none⟩ = some (.int .i64 t1) := (K2.out).cell 1 rfl
    have q2 : w2.cell? ⟨w.heap.size, 2, none⟩ = some (.int .i64 t2) := (K2.out).cell 2 rfl
    have q3 : w2.cell? ⟨w.heap.size, 3, none⟩ = some (.int .i64 t3) := (K2.out).cell 3 rfl
    clear hr1 hr2 hb2 HP HF HB K1 HR1
    go_wp2_with fail
    with_reducible refine (fixing_ok p ba bc _ _ t0 t1 _ HF2.out).mono ?_
    rintro e w3 ⟨rfl, hb3⟩
    rw [HKX.out]
    dsimp only
    have HF3 := Lib.hid (HF2.out.after hb3)
    have HB3 := Lib.hid (HB2.out.trans (hb3.mono HB2.out.size))
    have K3 := Lib.hid (K2.out.after hb3)
    have R13 := Lib.hid (R12.out.after hb3)
    have R23 := Lib.hid (R22.out.after hb3)
    clear HF2 HB2 K2 R12 R22
    clear q0 q1 q2 q3
    obtain ⟨w3v, hw⟩ : ∃ W, w3.alloc (.cells #[.int .i64 vn, .int .i64 vm] 29) = W := ⟨_, rfl⟩
    have hbb : Below w3.heap.size w3 w3v := by rw [← hw]; exact (Below.refl _ _).alloc (Nat.le_refl _) _
    have hblk : Blk w3v w3.heap.size #[.int .i64 vn, .int .i64 vm] 29 := by rw [← hw]; exact Blk.new _ _ _
    have HF4 := Lib.hid (HF3.out.after hbb)
    have HB4 := Lib.hid (HB3.out.trans (hbb.mono HB3.out.size))
    have K4 := Lib.hid (K3.out.after hbb)
    have R14 := Lib.hid (R13.out.after hbb)
    have R24 := Lib.hid (R23.out.after hbb)
    clear HF3 HB3 K3 R13 R23
    have V4 := Lib.hid hblk
    have q0 : w3v.cell? ⟨w.heap.size, 0, none⟩ = some (.int .i64 t0) := (K4.out).cell 0 rfl
    have q1 : w3v.cell? ⟨w.heap.size, 1, none⟩ = some (.int .i64 t1) := (K4.out).cell 1 rfl
    have q2 : w3v.cell? ⟨w.heap.size, 2, none⟩ = some (.int .i64 t2) := (K4.out).cell 2 rfl
    have q3 : w3v.cell? ⟨w.heap.size, 3, none⟩ = some (.int .i64 t3) := (K4.out).cell 3 rfl
    go_wp2_with fail
    clear hw hbb hblk
    with_reducible refine (choice_ok p ba bc _ _ t0 t1 _ HF4.out).mono ?_
    rintro e w5 ⟨rfl, hb5⟩
    rw [HKH.out]
    dsimp only
    have HF5 := Lib.hid (HF4.out.after hb5)
    have HB5 := Lib.hid (HB4.out.trans (hb5.mono HB4.out.size))
    have K5 := Lib.hid (K4.out.after hb5)
    have R15 := Lib.hid (R14.out.after hb5)
    have R25 := Lib.hid (R24.out.after hb5)
    clear HF4 HB4 K4 R14 R24
    have V5 := Lib.hid (V4.out.after hb5)
    clear q0 q1 q2 q3 hb5 V4
    have q0 : w5.cell? ⟨w.heap.size, 0, none⟩ = some (.int .i64 t0) := (K5.out).cell 0 rfl
    have q1 : w5.cell? ⟨w.heap.size, 1, none⟩ = some (.int .i64 t1) := (K5.out).cell 1 rfl
    have q2 : w5.cell? ⟨w.heap.size, 2, none⟩ = some (.int .i64 t2) := (K5.out).cell 2 rfl
    have q3 : w5.cell? ⟨w.heap.size, 3, none⟩ = some (.int .i64 t3) := (K5.out).cell 3 rfl
    go_wp2_with fail
    with_reducible refine (first_ok p ba bc S.1 S.2 t0 t1 t2 t3 _ HF5.out (by omega)).mono ?_
    rintro e w6 ⟨rfl, hb6⟩
    rw [HDV.out]
    have HF6 := Lib.hid (HF5.out.after hb6)
    have HB6 := Lib.hid (HB5.out.trans (hb6.mono HB5.out.size))
    have K6 := Lib.hid (K5.out.after hb6)
    have R16 := Lib.hid (R15.out.after hb6)
    have R26 := Lib.hid (R25.out.after hb6)
    clear HF5 HB5 K5 R15 R25
    have V6 := Lib.hid (V5.out.after hb6)
    clear q0 q1 q2 q3 hb6 V5
    have q0 : w6.cell? ⟨w.heap.size, 0, none⟩ = some (.int .i64 t0) := (K6.out).cell 0 rfl
    have q1 : w6.cell? ⟨w.heap.size, 1, none⟩ = some (.int .i64 t1) := (K6.out).cell 1 rfl
    have q2 : w6.cell? ⟨w.heap.size, 2, none⟩ = some (.int .i64 t2) := (K6.out).cell 2 rfl
    have q3 : w6.cell? ⟨w.heap.size, 3, none⟩ = some (.int .i64 t3) := (K6.out).cell 3 rfl
    have hla : (S.1.map Fx.fc).length = S.1.length := List.length_map _
    have hlb : (S.2.map Ch.fc).length = S.2.length := List.length_map _
    have HGA := Lib.hid (get_ok a1 c1 (S.1.map Fx.fc) t0 t1 (by rw [hla]; omega) w6 R16.out)
    rw [hla] at HGA
    unfold GetEnd at HGA
    rw [HGX.out] at HGA
    have HLA := Lib.hid hla
    have HLB := Lib.hid hlb
    clear hla hlb
    rw [HLA.out, HLB.out]
    go_wp2_with fail
    with_reducible refine HGA.out.mono ?_
    rintro e w7 ⟨rfl, hb7⟩
    have HF7 := Lib.hid (HF6.out.after hb7)
    have HB7 := Lib.hid (HB6.out.trans (hb7.mono HB6.out.size))
    have K7 := Lib.hid (K6.out.after hb7)
    have R17 := Lib.hid (R16.out.after hb7)
    have R27 := Lib.hid (R26.out.after hb7)
    clear HF6 HB6 K6 R16 R26
    have V7 := Lib.hid (V6.out.after hb7)
    clear q0 q1 q2 q3 hb7 V6
    obtain ⟨w7x, hw⟩ : ∃ W, w7.alloc (.cells #[.int .i64 gk, .int .i64 gd, .int .i64 vn, .int .i64 vm, .int .i64 gp] 43) = W := ⟨_, rfl⟩
    have hbb : Below w7.heap.size w7 w7x := by rw [← hw]; exact (Below.refl _ _).alloc (Nat.le_refl _) _
    have hblk : Blk w7x w7.heap.size #[.int .i64 gk, .int .i64 gd, .int .i64 vn, .int .i64 vm, .int .i64 gp] 43 := by rw [← hw]; exact Blk.new _ _ _
    have HF8 := Lib.hid (HF7.out.after hbb)
    have HB8 := Lib.hid (HB7.out.trans (hbb.mono HB7.out.size))
    have K8 := Lib.hid (K7.out.after hbb)
    have R18 := Lib.hid (R17.out.after hbb)
    have R28 := Lib.hid (R27.out.after hbb)
    clear HF7 HB7 K7 R17 R27
    have V8 := Lib.hid (V7.out.after hbb)
    have X8 := Lib.hid hblk
    have q0 : w7x.cell? ⟨w.heap.size, 0, none⟩ = some (.int .i64 t0) := (K8.out).cell 0 rfl
    have q1 : w7x.cell? ⟨w.heap.size, 1, none⟩ = some (.int .i64 t1) := (K8.out).cell 1 rfl
    have q2 : w7x.cell? ⟨w.heap.size, 2, none⟩ = some (.int .i64 t2) := (K8.out).cell 2 rfl
    have q3 : w7x.cell? ⟨w.heap.size, 3, none⟩ = some (.int .i64 t3) := (K8.out).cell 3 rfl
    have HGB := Lib.hid (get_ok a2 c2 (S.2.map Ch.fc) t0 t1 (by rw [HLB.out]; omega) w7x R28.out)
    rw [HLB.out] at HGB
    unfold GetEnd at HGB
    rw [HGH.out] at HGB
    clear V7
    go_wp2_with fail
    clear hw hbb hblk
    with_reducible refine HGB.out.mono ?_
    rintro e w9 ⟨rfl, hb9⟩
    have HF9 := Lib.hid (HF8.out.after hb9)
    have HB9 := Lib.hid (HB8.out.trans (hb9.mono HB8.out.size))
    have K9 := Lib.hid (K8.out.after hb9)
    have R19 := Lib.hid (R18.out.after hb9)
    have R29 := Lib.hid (R28.out.after hb9)
    clear HF8 HB8 K8 R18 R28
    have V9 := Lib.hid (V8.out.after hb9)
    have X9 := Lib.hid (X8.out.after hb9)
    clear q0 q1 q2 q3 hb9 V8 X8
    obtain ⟨w9y, hw⟩ : ∃ W, w9.alloc (.cells #[.int .i64 hk, .int .i64 hd, .int .i64 hn', .int .i64 hm, .int .i64 pn] 43) = W := ⟨_, rfl⟩
    have hbb : Below w9.heap.size w9 w9y := by rw [← hw]; exact (Below.refl _ _).alloc (Nat.le_refl _) _
    have hblk : Blk w9y w9.heap.size #[.int .i64 hk, .int .i64 hd, .int .i64 hn', .int .i64 hm, .int .i64 pn] 43 := by rw [← hw]; exact Blk.new _ _ _
    have HF10 := Lib.hid (HF9.out.after hbb)
    have HB10 := Lib.hid (HB9.out.trans (hbb.mono HB9.out.size))
    have K10 := Lib.hid (K9.out.after hbb)
    have R110 := Lib.hid (R19.out.after hbb)
    have R210 := Lib.hid (R29.out.after hbb)
    clear HF9 HB9 K9 R19 R29
    have V10 := Lib.hid (V9.out.after hbb)
    have X10 := Lib.hid (X9.out.after hbb)
    have Y10 := Lib.hid hblk
    have q0 : w9y.cell? ⟨w.heap.size, 0, none⟩ = some (.int .i64 t0) := (K10.out).cell 0 rfl
    have q1 : w9y.cell? ⟨w.heap.size, 1, none⟩ = some (.int .i64 t1) := (K10.out).cell 1 rfl
    have q2 : w9y.cell? ⟨w.heap.size, 2, none⟩ = some (.int .i64 t2) := (K10.out).cell 2 rfl
    have q3 : w9y.cell? ⟨w.heap.size, 3, none⟩ = some (.int .i64 t3) := (K10.out).cell 3 rfl
    have HGC := Lib.hid (reffirst_ok a2 c2 (S.2.map Ch.fc) t0 t1 t2 t3 (by rw [HLB.out]; omega) w9y R210.out)
    rw [HLB.out] at HGC
    unfold FirstEnd at HGC
    rw [HGF.out, HDV.out] at HGC
    clear V9 X9
    go_wp2_with fail
    clear hw hbb hblk
    with_reducible refine HGC.out.mono ?_
    rintro e w11 ⟨rfl, hb11⟩
    have HF11 := Lib.hid (HF10.out.after hb11)
    have HB11 := Lib.hid (HB10.out.trans (hb11.mono HB10.out.size))
    have K11 := Lib.hid (K10.out.after hb11)
    have R111 := Lib.hid (R110.out.after hb11)
    have R211 := Lib.hid (R210.out.after hb11)
    clear HF10 HB10 K10 R110 R210
    have v0 : w11.cell? ⟨w3.heap.size, 0, none⟩ = some (.int .i64 vn) := (V10.out.after hb11).cell 0 rfl
    have v1 : w11.cell? ⟨w3.heap.size, 1, none⟩ = some (.int .i64 vm) := (V10.out.after hb11).cell 1 rfl
    have x2 : w11.cell? ⟨w7.heap.size, 2, none⟩ = some (.int .i64 vn) := (X10.out.after hb11).cell 2 rfl
    have x3 : w11.cell? ⟨w7.heap.size, 3, none⟩ = some (.int .i64 vm) := (X10.out.after hb11).cell 3 rfl
    have y4 : w11.cell? ⟨w9.heap.size, 4, none⟩ = some (.int .i64 pn) := (Y10.out.after hb11).cell 4 rfl
    have heq := fun w => ratio_eql vn vm vn vm w
    rw [decide_eq_true ⟨rfl, rfl⟩] at heq
    clear q0 q1 q2 q3 hb11
    go_wp2_with fail
    with_reducible refine (awake_ok _).mono ?_
    rintro e w12 ⟨rfl, hb12⟩
    go_wp2_with fail
    go_ret
    exact ⟨rfl, HB11.out.trans (hb12.mono HB11.out.size)⟩

set_option maxRecDepth 100000 in
open Go.ChangeShapes Go.WideShapes Go.ChangeAt in
theorem walk_FactsKnow {H : Type} (enc : TypeId × Value → H) (base : Nat) (W : World) (v : Value) (d : DataW H) (p : List MemPlace) (h : DataW.Trod enc Try.prog W 0 (fun _ => true) true 22 v d p) (ok : Value.okWide Try.prog W .any base 22 v)
    (v' : Value) (d' : DataW H) (p' : List MemPlace) (h' : DataW.Trod enc Try.prog W 0 (fun _ => true) true 53 v' d' p') (ok' : Value.okWide Try.prog W .any base 53 v') :
    Calls Try.prog 5 #[v, v'] W fun e w' => e = .returned (.bool true) ∧ Below W.heap.size W w' := by
  obtain ⟨a, cap, l, rfl, hl, hc, _, hT⟩ := told_arg h ok
  obtain ⟨t0, t1, t2, t3, rfl, _⟩ := four_arg h' ok'
  exact know_law a cap l t0 t1 t2 t3 (by omega) W hT

end Go.Proofs.Ytfimgdjpnlcckaa
