/- The statement FactsOrder: its walk, up to the lists that are turned. -/
import Derived.Test.YtfimgdjpnlcckaaFacR
import Derived.Deep.RegionHeld3
import Derived.Deep.DrawnRows
namespace Go.Proofs.Ytfimgdjpnlcckaa
open Go.RowKit
set_option linter.unusedVariables false
set_option linter.unusedSimpArgs false

theorem known_in {A : List Fx} {k d n m : Int} (h : knownX A (k, d) = ((n, m), true)) : (⟨k, d, n, m⟩ : Fx) ∈ A := by
  unfold knownX at h
  cases hg : getK Fx.ky A (k, d) with
  | none => rw [hg] at h; simp at h
  | some x =>
    rw [hg] at h
    obtain ⟨h1, h2⟩ := getK_some hg
    obtain ⟨xk, xd, xn, xm⟩ := x
    simp only [Prod.mk.injEq, and_true] at h
    unfold Fx.ky at h2
    simp only [Prod.mk.injEq] at h2
    rw [← h.1, ← h.2, ← h2.1, ← h2.2]
    exact h1
theorem tell_there {S : St} (hS : S.Ok) {x : Tl} (hc : x.c = false) (h : x.fx ∈ S.1) : tellS S x = S := by
  unfold tellS
  rw [hc, if_neg (by simp)]
  split
  · rw [putK_there hS.1 h]
  · rfl
theorem tell_swap {S : St} (hS : S.Ok) {x y : Tl} (h : ¬ (x.c = y.c ∧ x.k = y.k ∧ x.d = y.d)) : tellS (tellS S x) y = tellS (tellS S y) x := by
  obtain ⟨xc, xk, xd, xn, xm, xp⟩ := x
  obtain ⟨yc, yk, yd, yn, ym, yp⟩ := y
  dsimp only at h
  have hk : xc = yc → ((xk, xd) : KD) ≠ (yk, yd) := fun e e' => h ⟨e, by simpa using e'⟩
  unfold tellS Tl.fx Tl.ch
  dsimp only
  cases xc <;> cases yc <;> simp only [if_true, Bool.false_eq_true, if_false]
  · split <;> split <;> try rfl
    rw [putK_comm hS.1 (show Fx.ky ⟨xk, xd, xn, xm⟩ ≠ Fx.ky ⟨yk, yd, yn, ym⟩ from hk rfl)]
  · split <;> split <;> try rfl
    rw [putK_comm hS.2 (show Ch.ky ⟨xk, xd, xp⟩ ≠ Ch.ky ⟨yk, yd, yp⟩ from hk rfl)]
/-- Two of a list change their places. -/
theorem made_turn {l : List Tl} {a : Nat} {x y : Tl} (hx : l[a]? = some x) (hy : l[a + 1]? = some y) (h : ¬ (x.c = y.c ∧ x.k = y.k ∧ x.d = y.d)) : madeS ((l.take a ++ [y, x]) ++ l.drop (a + 2)) = madeS l := by
  have hl : l = (l.take a ++ [x, y]) ++ l.drop (a + 2) := by
    obtain ⟨h1, e1⟩ := List.getElem?_eq_some_iff.1 hx
    obtain ⟨h2, e2⟩ := List.getElem?_eq_some_iff.1 hy
    have e3 : l.drop a = x :: y :: l.drop (a + 2) := by
      rw [List.drop_eq_getElem_cons h1, List.drop_eq_getElem_cons h2, e1, e2]
    have := (List.take_append_drop a l).symm
    rw [e3] at this
    rw [List.append_assoc]
    exact this
  conv => rhs; rw [hl]
  rw [madeS_append, madeS_append, madeS_append (l.take a ++ [x, y]), madeS_append]
  congr 1
  simp only [List.foldl_cons, List.foldl_nil]
  exact (tell_swap (madeS_ok _) h).symm

theorem infoTl : (Try.prog.info? 31).map (fun i => (i.zero, i.size, i.bytes)) = some (some (.agg #[.bool false, .int .i64 0, .int .i64 0, .int .i64 0, .int .i64 0, .int .i64 0]), 6, 48) := by kernel_rfl
theorem encT_one : ∀ x : Tl, ∀ v ∈ encT x, v.oneCell' = true := fun x v hv => by simp [encT] at hv; rcases hv with rfl | rfl | rfl | rfl | rfl | rfl <;> rfl
theorem recs_take {w : World} {b o : Nat} {l : List Tl} (h : RecsAt w (some ⟨b, o, none⟩) 6 encT l) (A : Nat) (hA : A ≤ l.length) : RecsAt w (some ⟨b, o, none⟩) 6 encT (l.take A) := by
  have hl : (l.take A).length = A := by rw [List.length_take]; omega
  intro h0
  obtain ⟨b', o', e, hc⟩ := h (by omega)
  refine ⟨b', o', e, fun i hi j v hv => hc i (by omega) j v ?_⟩
  unfold recF at hv ⊢
  rw [List.getD_eq_getElem?_getD, List.getElem?_take_of_lt (by omega)] at hv
  rw [List.getD_eq_getElem?_getD]
  exact hv
theorem recs_drop {w : World} {b o : Nat} {l : List Tl} (h : RecsAt w (some ⟨b, o, none⟩) 6 encT l) (A : Nat) : RecsAt w (some ⟨b, o + A * 6, none⟩) 6 encT (l.drop A) := by
  intro h0
  rw [List.length_drop] at h0
  obtain ⟨b', o', e, hc⟩ := h (by omega)
  cases e
  refine ⟨b, o + A * 6, rfl, fun i hi j v hv => ?_⟩
  rw [List.length_drop] at hi
  have := hc (A + i) (by omega) j v (by
    unfold recF at hv ⊢
    rw [List.getD_eq_getElem?_getD, List.getElem?_drop] at hv
    rw [List.getD_eq_getElem?_getD]
    exact hv)
  rwa [Nat.add_mul, ← Nat.add_assoc] at this

set_option maxHeartbeats 8000000 in
set_option maxRecDepth 100000 in
theorem order_law (a : Option Addr) (cap : Nat) (l : List Tl) (ua ub : Int) (hu0 : I64 ua) (hu1 : I64 ub) (hl : l.length ≤ cap) (hcap : cap ≤ 9223372036854775807) (w : World) (h : ToldAt w a l) :
    Calls Try.prog 4 #[.slice a l.length cap, .agg #[.int .i64 ua, .int .i64 ub]] w (SameEnd w true) := by
  obtain ⟨w0, hw0⟩ : ∃ w0, w.alloc (.cells #[.int .i64 ua, .int .i64 ub] 47) = w0 := ⟨_, rfl⟩
  have hb0 : Below w.heap.size w w0 := by rw [← hw0]; exact (Below.refl _ _).alloc (Nat.le_refl _) _
  have K0 : Hid (Blk w0 w.heap.size #[.int .i64 ua, .int .i64 ub] 47) := by rw [← hw0]; exact Blk.new _ _ _
  have HR0 := Lib.hid h
  have HR := Lib.hid (h.after hb0)
  have HB0 := Lib.hid hb0
  clear h hb0
  go_enter Try.func4, Try.ntmps4
  by_cases h40 : 40 < l.length
  · have h40' : decide (40 < (l.length : Int)) = true := decide_eq_true (by omega)
    have h41' : decide (40 < l.length) = true := decide_eq_true h40
    clear h40
    go_wp2_with fail
    clear hw0
    with_reducible refine (awake_ok _).mono ?_
    rintro e w9 ⟨rfl, hb9⟩
    go_wp2_with fail
    go_ret
    exact ⟨rfl, (HB0.out).trans (hb9.mono (HB0.out).size)⟩
  have h40' : decide (40 < (l.length : Int)) = false := decide_eq_false (by omega)
  have h41' : l.length ≤ 40 := by omega
  clear h40
  go_wp2_with fail
  clear hw0
  with_reducible refine (made_ok a cap l (by omega) _ HR.out).mono ?_
  rintro e w1 ⟨p, ba, bc, rfl, hF, hb, g1, g2, g3⟩
  have HF1 := Lib.hid hF
  have hzz := HB0.out.size
  have HB1 := Lib.hid (HB0.out.trans (hb.mono hzz))
  have HR1 := Lib.hid (HR.out.after hb)
  have K1 := Lib.hid (K0.out.after hb)
  have kp : w.heap.size < p ∧ w.heap.size < ba ∧ w.heap.size < bc := by have := K0.out.lt; omega
  clear hF hb HR
  go_wp2_with fail
  with_reducible refine (made_ok a cap l (by omega) _ HR1.out).mono ?_
  rintro e w2 ⟨p', ba', bc', rfl, hF, hb, g1', g2', g3'⟩
  have HF2 := Lib.hid (HF1.out.after hb)
  have HT2 := Lib.hid hF
  have hzz1 := HB1.out.size
  have HB2 := Lib.hid (HB1.out.trans (hb.mono hzz1))
  have HR2 := Lib.hid (HR1.out.after hb)
  have K2 := Lib.hid (K1.out.after hb)
  have hlt1 : p < w1.heap.size ∧ ba < w1.heap.size ∧ bc < w1.heap.size := ⟨HF1.out.blk.lt, HF1.out.ma.lt, HF1.out.mc.lt⟩
  have hl7 := madeS_len l
  have HSK := Lib.hid (madeS_ok l)
  clear hF hb HF1 HR1 K0 K1 HB1
  obtain ⟨S, hS⟩ : ∃ S, madeS l = S := ⟨_, rfl⟩
  rw [hS] at HF2 HT2 hl7 HSK
  have HS := Lib.hid hS
  clear hS
  go_wp2_with fail
  go_loopw [7] (fun i wr => ∃ j : Nat, j ≤ l.length ∧ i = .int .i64 j ∧ Hid (FactsAt wr p ba bc S.1 S.2) ∧ Hid (FactsAt wr p' ba' bc' S.1 S.2) ∧ Hid (Turn [ba', bc'] w2 wr)) (fun i _ => l.length - (intOf i).toNat)
  case atStart => exact ⟨0, by omega, rfl, HF2, HT2, Turn.refl _ _⟩
  case round =>
    obtain ⟨j, hj, rfl, HFr, HTr, HTU⟩ := hrel
    have zr := HTU.out.size
    have hbr : Hid (Below w.heap.size w2 wr) := HTU.out.below (by have := HB2.out.size; omega) (by simp; omega)
    by_cases hlt : j < l.length
    · have hx := List.getElem?_eq_getElem hlt
      obtain ⟨x, hy⟩ : ∃ x, l[j] = x := ⟨_, rfl⟩
      have hxo : x.Ok := by rw [← hy]; exact HR0.out.ok _ (List.getElem_mem _)
      have hT : l.take (j + 1) = l.take j ++ [l[j]] := List.take_succ_eq_append_getElem hlt
      rw [hy] at hx hT
      have HX := Lib.hid hxo
      have HT := Lib.hid hT
      have hR : RecsAt wr a 6 encT l := ((HR0.out.after (HB2.out.trans hbr.out)).at_)
      obtain ⟨b, o, rfl, _⟩ := hR (by omega)
      have t0 : wr.cell? ⟨b, o + j * 6, none⟩ = some (.bool x.c) := RecsAt.cell hR rfl hlt hx (j := 0) rfl
      have t1 : wr.cell? ⟨b, o + j * 6 + 1, none⟩ = some (.int .i64 x.k) := RecsAt.cell hR rfl hlt hx (j := 1) rfl
      have t2 : wr.cell? ⟨b, o + j * 6 + 2, none⟩ = some (.int .i64 x.d) := RecsAt.cell hR rfl hlt hx (j := 2) rfl
      have t3 : wr.cell? ⟨b, o + j * 6 + 3, none⟩ = some (.int .i64 x.n) := RecsAt.cell hR rfl hlt hx (j := 3) rfl
      have t4 : wr.cell? ⟨b, o + j * 6 + 4, none⟩ = some (.int .i64 x.m) := RecsAt.cell hR rfl hlt hx (j := 4) rfl
      have t5 : wr.cell? ⟨b, o + j * 6 + 5, none⟩ = some (.int .i64 x.p) := RecsAt.cell hR rfl hlt hx (j := 5) rfl
      clear hx hR hy hT hxo
      obtain ⟨xc, xk, xd, xn, xm, xp⟩ := x
      dsimp only at t0 t1 t2 t3 t4 t5
      have i1 : (0 : Int) ≤ (j : Int) := by omega
      have i2 : (j : Int) < (l.length : Int) := by omega
      have HC := Lib.hid (fun W h => fixing_ok p ba bc S.1 S.2 xk xd W h)
      have hbw : b < w.heap.size := by
        obtain ⟨b', o', e, hb'⟩ := HR0.out.at_.lt (by omega) (by simp [recF, encT])
        cases e
        exact hb'
      have HC' : Hid (∀ W, Below wr.heap.size wr W → Calls Try.prog 17 #[.pointer (some ⟨p, 0, none⟩), .int .i64 xk, .int .i64 xd] W fun e w' => e = .returned (.tuple #[.agg #[.int .i64 (knownX S.1 (xk, xd)).1.1, .int .i64 (knownX S.1 (xk, xd)).1.2], .bool (knownX S.1 (xk, xd)).2]) ∧ Below wr.heap.size wr w' ∧ Below W.heap.size W w') := fun W hW => (HC.out W (HFr.out.after hW)).mono fun e w' ⟨h1, h2⟩ => ⟨h1, hW.trans (h2.mono hW.size), h2⟩
      have HK1 : Hid (∀ w' : World, Below wr.heap.size wr w' → ∀ q, w'.cell? ⟨b, q, none⟩ = wr.cell? ⟨b, q, none⟩) := fun w' h q => h.cell (p := ⟨b, q, none⟩) (by show b < _; have := HB2.out.size; omega)
      have HS1 := Lib.hid (show ∀ w' : World, (∀ q, w'.cell? ⟨b, q, none⟩ = wr.cell? ⟨b, q, none⟩) → w'.cell? ⟨b, o + j * 6 + 1, none⟩ = some (.int .i64 xk) ∧ w'.cell? ⟨b, o + j * 6 + 2, none⟩ = some (.int .i64 xd) from fun w' h => ⟨(h _).trans t1, (h _).trans t2⟩)
      obtain ⟨V, hV⟩ : ∃ V, knownX S.1 (xk, xd) = V := ⟨_, rfl⟩
      rw [hV] at HC'
      have HV := Lib.hid hV
      clear HC hV
      go_wp2_with fail
      have hd0 := HK1.out wr.drew (Below.refl _ _).drew
      go_region_held3 (fun w' => w'.cell? ⟨b, o + j * 6 + 1, none⟩ = some (.int .i64 xk) ∧ w'.cell? ⟨b, o + j * 6 + 2, none⟩ = some (.int .i64 xd))
        (first | with_reducible exact HS1.out _ hd0 | with_reducible exact HS1.out _ hd5 | with_reducible exact HS1.out _ hd6 | with_reducible exact HS1.out _ (HK1.out _ ((Below.refl _ wr).alloc (Nat.le_refl _) _).drew) | with_reducible exact HS1.out _ (HK1.out _ (hb5.alloc hb5.size _)) | with_reducible exact HS1.out _ (HK1.out _ ((hb5.alloc hb5.size _).setCell (p := ⟨w5.heap.size, 0, none⟩) hb5.size _)) | with_reducible exact HS1.out _ (HK1.out _ (((hb5.alloc hb5.size _).setCell (p := ⟨w5.heap.size, 0, none⟩) hb5.size _).setCell (p := ⟨w5.heap.size, 1, none⟩) hb5.size _)) | with_reducible exact HS1.out _ (HK1.out _ ((hb5.setCell (p := ⟨wr.heap.size, 0, none⟩) (Nat.le_refl _) _).setCell (p := ⟨wr.heap.size, 1, none⟩) (Nat.le_refl _) _)))
        (first
          | (go_at_call 17; with_reducible refine (HC'.out wr.drew (Below.refl _ _).drew).mono ?_; rintro e w5 ⟨rfl, hb5, hc5⟩; have hd5 := HK1.out _ hb5)
          | (go_at_call 17; with_reducible refine (HC'.out (wr.alloc (.cells #[.int .i64 0, .int .i64 0] 29)).drew ((Below.refl _ wr).alloc (Nat.le_refl _) _).drew).mono ?_; rintro e w5 ⟨rfl, hb5, hc5⟩; have hd5 := HK1.out _ hb5; have hk5 : Blk w5 wr.heap.size #[.int .i64 0, .int .i64 0] 29 := (Blk.new wr #[.int .i64 0, .int .i64 0] 29).drew.after hc5; have n0 := hk5.cell 0 rfl; have n1 := hk5.cell 1 rfl; have n2 := hk5.free 0; have n3 := hk5.free 1))
      · obtain ⟨wz, hwz⟩ : ∃ wz, (w5.alloc (.cells #[.int .i64 V.1.1, .int .i64 V.1.2] 29)) = wz := ⟨_, rfl⟩
        obtain ⟨bv, hbv⟩ : ∃ bv, w5.heap.size = bv := ⟨_, rfl⟩
        have kz : Blk wz bv #[.int .i64 V.1.1, .int .i64 V.1.2] 29 := by rw [← hwz, ← hbv]; exact Blk.new _ _ _
        have bz : Below wr.heap.size wr wz := by rw [← hwz]; exact hb5.alloc hb5.size _
        rw [hwz, hbv]
        have HKZ := Lib.hid kz
        have HBZ := Lib.hid bz
        have hkc := HK1.out _ bz
        have c0 := (hkc _).trans t0
        have c1 := (hkc _).trans t1
        have c2 := (hkc _).trans t2
        have c3 := (hkc _).trans t3
        have c4 := (hkc _).trans t4
        have c5 := (hkc _).trans t5
        obtain ⟨⟨vn, vm⟩, vb⟩ := V
        have v0 : wz.cell? ⟨bv, 0, none⟩ = some (.int .i64 vn) := kz.cell 0 rfl
        have v1 : wz.cell? ⟨bv, 1, none⟩ = some (.int .i64 vm) := kz.cell 1 rfl
        clear hwz hbv kz bz hkc hd0 hb5 hc5 hd5 t0 t1 t2 t3 t4 t5
        cases vb with
        | false =>
          clear v0 v1
          go_wp2_with (go_quiet (fail))
          have hbd : ∀ n, Below wr.heap.size wr (wz.drewN n) := fun n => HBZ.out.trans ((below_draws wz n).mono HBZ.out.size)
          go_roundw
          case rel => exact ⟨j + 1, by omega, by go_num, HFr.out.after (hbd _), HTr.out.after (hbd _), HTU.out.trans (Turn.of_below (hbd _))⟩
          case measure => simp [intOf]; omega
        | true =>
          cases xc with
          | true =>
            clear v0 v1
            go_wp2_with (go_quiet (fail))
            have hbd : ∀ n, Below wr.heap.size wr (wz.drewN n) := fun n => HBZ.out.trans ((below_draws wz n).mono HBZ.out.size)
            go_roundw
            case rel => exact ⟨j + 1, by omega, by go_num, HFr.out.after (hbd _), HTr.out.after (hbd _), HTU.out.trans (Turn.of_below (hbd _))⟩
            case measure => simp [intOf]; omega
          | false =>
            have heq := fun w => ratio_eql vn vm xn xm w
            by_cases he : vn = xn ∧ vm = xm
            · rw [decide_eq_true he] at heq
              have HE := Lib.hid he
              clear he
              have HCT := Lib.hid (fun W h => tell_ok p' ba' bc' S.1 S.2 _ HX.out W h)
              dsimp only [encT] at HCT
              go_wp2_with (go_quiet (fail))
              have hbd : ∀ n, Below wr.heap.size wr (wz.drewN n) := fun n => HBZ.out.trans ((below_draws wz n).mono HBZ.out.size)
              with_reducible refine (HCT.out _ (HTr.out.after (hbd _))).mono ?_
              rintro e w6 ⟨rfl, ht6, hF6⟩
              have hts : tellS S ⟨false, xk, xd, xn, xm, xp⟩ = S := tell_there HSK.out rfl (by
                have := known_in HV.out
                rw [HE.out.1, HE.out.2] at this
                exact this)
              rw [show ((S.1, S.2) : St) = S from rfl, hts] at hF6
              have HT6 : Hid (Turn [ba', bc'] wr w6) := (Turn.of_below (hbd _)).trans ht6
              have HF6 := Lib.hid hF6
              clear hts ht6 hF6 hbd heq v0 v1 c0 c1 c2 c3 c4 c5
              go_wp2_with fail
              go_roundw
              case rel => exact ⟨j + 1, by omega, by go_num, HT6.out.facts HFr.out (by simp; omega) (by simp; omega) (by simp; omega), HF6, HTU.out.trans HT6.out⟩
              case measure => simp [intOf]; omega
            · rw [decide_eq_false he] at heq
              clear he
              go_wp2_with (go_quiet (fail))
              have hbd : ∀ n, Below wr.heap.size wr (wz.drewN n) := fun n => HBZ.out.trans ((below_draws wz n).mono HBZ.out.size)
              go_roundw
              case rel => exact ⟨j + 1, by omega, by go_num, HFr.out.after (hbd _), HTr.out.after (hbd _), HTU.out.trans (Turn.of_below (hbd _))⟩
              case measure => simp [intOf]; omega
      · obtain ⟨wz, hwz⟩ : ∃ wz, ((w5.setCell ⟨wr.heap.size, 0, none⟩ (.int .i64 V.1.1)).setCell ⟨wr.heap.size, 1, none⟩ (.int .i64 V.1.2)) = wz := ⟨_, rfl⟩
        obtain ⟨bv, hbv⟩ : ∃ bv, wr.heap.size = bv := ⟨_, rfl⟩
        have kz : Blk wz bv #[.int .i64 V.1.1, .int .i64 V.1.2] 29 := by rw [← hwz, ← hbv]; exact (hk5.set 0 _).set 1 _
        have bz : Below wr.heap.size wr wz := by rw [← hwz]; exact (hb5.setCell (p := ⟨wr.heap.size, 0, none⟩) (Nat.le_refl _) _).setCell (p := ⟨wr.heap.size, 1, none⟩) (Nat.le_refl _) _
        rw [hwz, hbv]
        have HKZ := Lib.hid kz
        have HBZ := Lib.hid bz
        have hkc := HK1.out _ bz
        have c0 := (hkc _).trans t0
        have c1 := (hkc _).trans t1
        have c2 := (hkc _).trans t2
        have c3 := (hkc _).trans t3
        have c4 := (hkc _).trans t4
        have c5 := (hkc _).trans t5
        obtain ⟨⟨vn, vm⟩, vb⟩ := V
        have v0 : wz.cell? ⟨bv, 0, none⟩ = some (.int .i64 vn) := kz.cell 0 rfl
        have v1 : wz.cell? ⟨bv, 1, none⟩ = some (.int .i64 vm) := kz.cell 1 rfl
        clear hwz hbv kz bz hkc hd0 hb5 hc5 hd5 t0 t1 t2 t3 t4 t5
        cases vb with
        | false =>
          clear v0 v1
          go_wp2_with (go_quiet (fail))
          have hbd : ∀ n, Below wr.heap.size wr (wz.drewN n) := fun n => HBZ.out.trans ((below_draws wz n).mono HBZ.out.size)
          go_roundw
          case rel => exact ⟨j + 1, by omega, by go_num, HFr.out.after (hbd _), HTr.out.after (hbd _), HTU.out.trans (Turn.of_below (hbd _))⟩
          case measure => simp [intOf]; omega
        | true =>
          cases xc with
          | true =>
            clear v0 v1
            go_wp2_with (go_quiet (fail))
            have hbd : ∀ n, Below wr.heap.size wr (wz.drewN n) := fun n => HBZ.out.trans ((below_draws wz n).mono HBZ.out.size)
            go_roundw
            case rel => exact ⟨j + 1, by omega, by go_num, HFr.out.after (hbd _), HTr.out.after (hbd _), HTU.out.trans (Turn.of_below (hbd _))⟩
            case measure => simp [intOf]; omega
          | false =>
            have heq := fun w => ratio_eql vn vm xn xm w
            by_cases he : vn = xn ∧ vm = xm
            · rw [decide_eq_true he] at heq
              have HE := Lib.hid he
              clear he
              have HCT := Lib.hid (fun W h => tell_ok p' ba' bc' S.1 S.2 _ HX.out W h)
              dsimp only [encT] at HCT
              go_wp2_with (go_quiet (fail))
              have hbd : ∀ n, Below wr.heap.size wr (wz.drewN n) := fun n => HBZ.out.trans ((below_draws wz n).mono HBZ.out.size)
              with_reducible refine (HCT.out _ (HTr.out.after (hbd _))).mono ?_
              rintro e w6 ⟨rfl, ht6, hF6⟩
              have hts : tellS S ⟨false, xk, xd, xn, xm, xp⟩ = S := tell_there HSK.out rfl (by
                have := known_in HV.out
                rw [HE.out.1, HE.out.2] at this
                exact this)
              rw [show ((S.1, S.2) : St) = S from rfl, hts] at hF6
              have HT6 : Hid (Turn [ba', bc'] wr w6) := (Turn.of_below (hbd _)).trans ht6
              have HF6 := Lib.hid hF6
              clear hts ht6 hF6 hbd heq v0 v1 c0 c1 c2 c3 c4 c5
              go_wp2_with fail
              go_roundw
              case rel => exact ⟨j + 1, by omega, by go_num, HT6.out.facts HFr.out (by simp; omega) (by simp; omega) (by simp; omega), HF6, HTU.out.trans HT6.out⟩
              case measure => simp [intOf]; omega
            · rw [decide_eq_false he] at heq
              clear he
              go_wp2_with (go_quiet (fail))
              have hbd : ∀ n, Below wr.heap.size wr (wz.drewN n) := fun n => HBZ.out.trans ((below_draws wz n).mono HBZ.out.size)
              go_roundw
              case rel => exact ⟨j + 1, by omega, by go_num, HFr.out.after (hbd _), HTr.out.after (hbd _), HTU.out.trans (Turn.of_below (hbd _))⟩
              case measure => simp [intOf]; omega
    · obtain rfl : j = l.length := by omega
      have HBr := Lib.hid (HB2.out.trans hbr.out)
      have k2 : Hid (Blk wr w.heap.size #[.int .i64 ua, .int .i64 ub] 47) := HTU.out.blk K2.out (by simp; omega)
      go_wp2_with fail
      with_reducible refine (same_ok p ba bc p' ba' bc' S.1 S.1 S.2 S.2 _ HFr.out HTr.out (by omega) (by omega) (by omega) (by omega)).mono ?_
      rintro e w3 ⟨rfl, hb3⟩
      rw [show decide (S.1 = S.1 ∧ S.2 = S.2) = true from decide_eq_true ⟨rfl, rfl⟩]
      have HF3 := Lib.hid (HFr.out.after hb3)
      have HB3 := Lib.hid (HBr.out.trans (hb3.mono HBr.out.size))
      have K3 := Lib.hid (k2.out.after hb3)
      have HR3 := Lib.hid (HR0.out.after HB3.out)
      clear hb3 HTr HTU hbr k2 HT2 HF2 HFr HR2 zr
      have q0 : w3.cell? ⟨w.heap.size, 0, none⟩ = some (.int .i64 ua) := (K3.out).cell 0 rfl
      have q1 : w3.cell? ⟨w.heap.size, 1, none⟩ = some (.int .i64 ub) := (K3.out).cell 1 rfl
      by_cases c1 : ua < 0
      · have c1' : decide (ua < 0) = true := decide_eq_true c1
        clear c1
        go_wp2_with (go_quiet (fail))
        with_reducible refine (awake_ok _).mono ?_
        rintro e w9 ⟨rfl, hb9⟩
        go_wp2_with fail
        go_ret
        exact ⟨rfl, (HB3.out.trans ((below_draws w3 _).mono HB3.out.size)).trans (hb9.mono (HB3.out.trans ((below_draws w3 _).mono HB3.out.size)).size)⟩
      have c1' : decide (ua < 0) = false := decide_eq_false c1
      obtain ⟨A, rfl⟩ := Int.eq_ofNat_of_zero_le (show 0 ≤ ua by omega)
      clear c1
      by_cases c2 : l.length ≤ A
      · have c2' : decide (l.length ≤ A) = true := decide_eq_true c2
        have c2'' : decide ((l.length : Int) ≤ (A : Int)) = true := decide_eq_true (by omega)
        clear c2
        go_wp2_with (go_quiet (fail))
        with_reducible refine (awake_ok _).mono ?_
        rintro e w9 ⟨rfl, hb9⟩
        go_wp2_with fail
        go_ret
        exact ⟨rfl, (HB3.out.trans ((below_draws w3 _).mono HB3.out.size)).trans (hb9.mono (HB3.out.trans ((below_draws w3 _).mono HB3.out.size)).size)⟩
      have c2' : decide (l.length ≤ A) = false := decide_eq_false c2
      have c2'' : decide ((l.length : Int) ≤ (A : Int)) = false := decide_eq_false (by omega)
      have hA : A < l.length := by omega
      have hA' : (A : Int) < (l.length : Int) := by omega
      have hA0 : (0 : Int) ≤ (A : Int) := by omega
      have hwr : IntKind.i64.wrap ((A : Int) + 1) = (A : Int) + 1 := IntWalk.i64_in _ (by omega)
      have HWR := Lib.hid hwr
      clear c2 hwr
      by_cases c3 : ub = (A : Int) + 1
      · subst c3
        by_cases c4 : l.length ≤ A + 1
        · have c4' : decide ((l.length : Int) ≤ (A : Int) + 1) = true := decide_eq_true (by omega)
          have hwr := HWR.out
          clear c4
          go_wp2_with (go_quiet (fail))
          with_reducible refine (awake_ok _).mono ?_
          rintro e w9 ⟨rfl, hb9⟩
          go_wp2_with fail
          go_ret
          exact ⟨rfl, (HB3.out.trans ((below_draws w3 _).mono HB3.out.size)).trans (hb9.mono (HB3.out.trans ((below_draws w3 _).mono HB3.out.size)).size)⟩
        · have c4' : decide ((l.length : Int) ≤ (A : Int) + 1) = false := decide_eq_false (by omega)
          have hA1 : A + 1 < l.length := by omega
          have hA1' : (A : Int) + 1 < (l.length : Int) := by omega
          have hA2 : (0 : Int) ≤ (A : Int) + 1 := by omega
          clear c4
          have hx := List.getElem?_eq_getElem hA
          have hy := List.getElem?_eq_getElem hA1
          obtain ⟨x, hx'⟩ : ∃ x, l[A] = x := ⟨_, rfl⟩
          obtain ⟨y, hy'⟩ : ∃ y, l[A + 1] = y := ⟨_, rfl⟩
          rw [hx'] at hx
          rw [hy'] at hy
          have HX := Lib.hid hx
          have HY := Lib.hid hy
          have hR : RecsAt w3 a 6 encT l := HR3.out.at_
          obtain ⟨b, o, rfl, _⟩ := hR (by omega)
          obtain ⟨xc, xk, xd, xn, xm, xp⟩ := x
          obtain ⟨yc, yk, yd, yn, ym, yp⟩ := y
          clear hx' hy'
          have s0 : w3.cell? ⟨b, o + A * 6, none⟩ = some (.bool xc) := RecsAt.cell hR rfl hA hx (j := 0) rfl
          have s1 : w3.cell? ⟨b, o + A * 6 + 1, none⟩ = some (.int .i64 xk) := RecsAt.cell hR rfl hA hx (j := 1) rfl
          have s2 : w3.cell? ⟨b, o + A * 6 + 2, none⟩ = some (.int .i64 xd) := RecsAt.cell hR rfl hA hx (j := 2) rfl
          have s3 : w3.cell? ⟨b, o + A * 6 + 3, none⟩ = some (.int .i64 xn) := RecsAt.cell hR rfl hA hx (j := 3) rfl
          have s4 : w3.cell? ⟨b, o + A * 6 + 4, none⟩ = some (.int .i64 xm) := RecsAt.cell hR rfl hA hx (j := 4) rfl
          have s5 : w3.cell? ⟨b, o + A * 6 + 5, none⟩ = some (.int .i64 xp) := RecsAt.cell hR rfl hA hx (j := 5) rfl
          have r0 : w3.cell? ⟨b, o + (A + 1) * 6, none⟩ = some (.bool yc) := RecsAt.cell hR rfl hA1 hy (j := 0) rfl
          have r1 : w3.cell? ⟨b, o + (A + 1) * 6 + 1, none⟩ = some (.int .i64 yk) := RecsAt.cell hR rfl hA1 hy (j := 1) rfl
          have r2 : w3.cell? ⟨b, o + (A + 1) * 6 + 2, none⟩ = some (.int .i64 yd) := RecsAt.cell hR rfl hA1 hy (j := 2) rfl
          have r3 : w3.cell? ⟨b, o + (A + 1) * 6 + 3, none⟩ = some (.int .i64 yn) := RecsAt.cell hR rfl hA1 hy (j := 3) rfl
          have r4 : w3.cell? ⟨b, o + (A + 1) * 6 + 4, none⟩ = some (.int .i64 ym) := RecsAt.cell hR rfl hA1 hy (j := 4) rfl
          have r5 : w3.cell? ⟨b, o + (A + 1) * 6 + 5, none⟩ = some (.int .i64 yp) := RecsAt.cell hR rfl hA1 hy (j := 5) rfl
          clear hx hy hR
          have hwr := HWR.out
          have hbw3 : b < w3.heap.size := World.block_lt_of_cell? w3 _ s0
          by_cases e1 : xc = yc
          · have e1' : (xc == yc) = true := by simpa using e1
            clear e1
            by_cases e2 : xk = yk
            · have e2' : (xk == yk) = true := by simpa using e2
              clear e2
              by_cases e3 : xd = yd
              · have e3' : (xd == yd) = true := by simpa using e3
                clear e3
                go_wp2_with (go_quiet (fail))
                with_reducible refine (awake_ok _).mono ?_
                rintro e w9 ⟨rfl, hb9⟩
                go_wp2_with fail
                go_ret
                exact ⟨rfl, (HB3.out.trans ((below_draws w3 _).mono HB3.out.size)).trans (hb9.mono (HB3.out.trans ((below_draws w3 _).mono HB3.out.size)).size)⟩
              · have e3' : (xd == yd) = false := by simpa using e3
                have HNE : Hid (¬ (xc = yc ∧ xk = yk ∧ xd = yd)) := fun h => e3 h.2.2
                clear e3
                obtain ⟨i0, hi, hi0, hi1, hi2⟩ := info_parts infoTl
                have htA : (l.take A).length = A := by rw [List.length_take]; omega
                have hq1 : (cellsL encT (l.take A)).length = A * 6 := by rw [cellsL_len (enc := encT) (size := 6) (fun _ => rfl), htA]
                have hq2 := recs_take HR3.out.at_ A (by omega)
                have hq3 := cellsL_one encT_one (l.take A)
                have hq4 : ∀ n, ∀ (j : Nat) (u : Value), (cellsL encT (l.take A))[j]? = some u → (w3.drewN n).cell? ((⟨b, o, none⟩ : Addr).add j) = some u := fun n => RecsAt.src (RowsAt.after hq2 (below_draws w3 n)) (fun _ => rfl) rfl
                have HQ1 := Lib.hid hq1
                have HQ3 := Lib.hid hq3
                have HQ4 := Lib.hid hq4
                have HTA := Lib.hid htA
                clear hq1 hq2 hq3 hq4 htA
                have hc1 : (A : Int) ≤ (cap : Int) := by omega
                have hc2 : A ≤ cap := by omega
                go_wp2_with (first
                  | go_quiet (fail)
                  | (at_builtin; refine wpList_append_own _ rfl (.tmp 141) (.tmp 144) 22 rfl w3.heap.size 31 i0 _ 6 48 Try.underlying22 hi hi0 hi1 hi2 rfl (by decide) _ 0 [] rfl (World.ownsRow_nil _ _ _ _) ⟨b, o, none⟩ A cap (cellsL encT (l.take A)) rfl HQ1.out (HQ4.out _) HQ3.out (by unfold maxLen; omega) (by omega) (by simp) ?_; intro v4 w4 hown4 hgrow4 _))
                have hB4 : Below w3.heap.size w3 w4 := (below_draws w3 _).grown hgrow4 (by simp) (fun k e => by have e' : (none : Option Nat) = some k := e; cases e')
                have HO4 : Hid (w4.ownsRow w3.heap.size 31 6 v4 A (cellsL encT (l.take A))) := by
                  show World.ownsRow _ _ _ _ _ _ _
                  simpa only [Nat.zero_add, List.nil_append] using hown4
                have HB4 := Lib.hid hB4
                have hk4 : ∀ q, w4.cell? ⟨b, q, none⟩ = w3.cell? ⟨b, q, none⟩ := fun q => hB4.cell (p := ⟨b, q, none⟩) hbw3
                have HS4 := Lib.hid (show ∀ w' : World, (∀ q, w'.cell? ⟨b, q, none⟩ = w3.cell? ⟨b, q, none⟩) → w'.cell? ⟨b, o + A * 6, none⟩ = some (.bool xc) ∧ w'.cell? ⟨b, o + A * 6 + 1, none⟩ = some (.int .i64 xk) ∧ w'.cell? ⟨b, o + A * 6 + 2, none⟩ = some (.int .i64 xd) ∧ w'.cell? ⟨b, o + A * 6 + 3, none⟩ = some (.int .i64 xn) ∧ w'.cell? ⟨b, o + A * 6 + 4, none⟩ = some (.int .i64 xm) ∧ w'.cell? ⟨b, o + A * 6 + 5, none⟩ = some (.int .i64 xp) ∧ w'.cell? ⟨b, o + (A + 1) * 6, none⟩ = some (.bool yc) ∧ w'.cell? ⟨b, o + (A + 1) * 6 + 1, none⟩ = some (.int .i64 yk) ∧ w'.cell? ⟨b, o + (A + 1) * 6 + 2, none⟩ = some (.int .i64 yd) ∧ w'.cell? ⟨b, o + (A + 1) * 6 + 3, none⟩ = some (.int .i64 yn) ∧ w'.cell? ⟨b, o + (A + 1) * 6 + 4, none⟩ = some (.int .i64 ym) ∧ w'.cell? ⟨b, o + (A + 1) * 6 + 5, none⟩ = some (.int .i64 yp) from fun w' h => ⟨(h _).trans s0, (h _).trans s1, (h _).trans s2, (h _).trans s3, (h _).trans s4, (h _).trans s5, (h _).trans r0, (h _).trans r1, (h _).trans r2, (h _).trans r3, (h _).trans r4, (h _).trans r5⟩)
                have HK4 : Hid (∀ w' : World, Below w3.heap.size w3 w' → ∀ q, w'.cell? ⟨b, q, none⟩ = w3.cell? ⟨b, q, none⟩) := fun w' h q => h.cell (p := ⟨b, q, none⟩) hbw3
                clear hown4 hgrow4 hB4 hk4 s0 s1 s2 s3 s4 s5 r0 r1 r2 r3 r4 r5 HQ1 HQ3 HQ4
                have zz4 := HB4.out.size
                have HO4d := Lib.hid (fun o => own_after HO4.out ((Below.refl w4.heap.size w4).alloc (Nat.le_refl _) o).drew)
                go_region_held3 (fun w' => w'.cell? ⟨b, o + A * 6, none⟩ = some (.bool xc) ∧ w'.cell? ⟨b, o + A * 6 + 1, none⟩ = some (.int .i64 xk) ∧ w'.cell? ⟨b, o + A * 6 + 2, none⟩ = some (.int .i64 xd) ∧ w'.cell? ⟨b, o + A * 6 + 3, none⟩ = some (.int .i64 xn) ∧ w'.cell? ⟨b, o + A * 6 + 4, none⟩ = some (.int .i64 xm) ∧ w'.cell? ⟨b, o + A * 6 + 5, none⟩ = some (.int .i64 xp) ∧ w'.cell? ⟨b, o + (A + 1) * 6, none⟩ = some (.bool yc) ∧ w'.cell? ⟨b, o + (A + 1) * 6 + 1, none⟩ = some (.int .i64 yk) ∧ w'.cell? ⟨b, o + (A + 1) * 6 + 2, none⟩ = some (.int .i64 yd) ∧ w'.cell? ⟨b, o + (A + 1) * 6 + 3, none⟩ = some (.int .i64 yn) ∧ w'.cell? ⟨b, o + (A + 1) * 6 + 4, none⟩ = some (.int .i64 ym) ∧ w'.cell? ⟨b, o + (A + 1) * 6 + 5, none⟩ = some (.int .i64 yp))
                  (first | with_reducible exact HS4.out _ (HK4.out _ HB4.out.drew) | with_reducible exact HS4.out _ (HK4.out _ (HB4.out.alloc zz4 _).drew) | with_reducible exact HS4.out _ (HK4.out _ ((HB4.out.alloc zz4 _).drew.grown hgrow5 (by simp; omega) (fun k e => (own_base HO4.out e).1))))
                  ((refine step_append_lies _ (by rfl) _ _ _ (by rfl) w3.heap.size 31 i0 _ 6 48 Try.underlying22 hi hi0 hi1 hi2 rfl (by omega) _ A _ (by rfl) (HO4d.out _) ⟨w4.heap.size, 0, none⟩ 2 2 [.bool yc, .int .i64 yk, .int .i64 yd, .int .i64 yn, .int .i64 ym, .int .i64 yp, .bool xc, .int .i64 xk, .int .i64 xd, .int .i64 xn, .int .i64 xm, .int .i64 xp] (by rfl) (by rfl) (World.news_of_block (cs := #[.bool yc, .int .i64 yk, .int .i64 yd, .int .i64 yn, .int .i64 ym, .int .i64 yp, .bool xc, .int .i64 xk, .int .i64 xd, .int .i64 xn, .int .i64 xm, .int .i64 xp]) (t := 31) (fr := (0, 0)) (alloc_at (by simp))) (by simp [Value.oneCell']) (by omega) (by unfold maxLen; omega) (by omega) (by simp; omega) (w4.heap.size + 1) (by simp) ?_; intro g5 c5 w5 hown5 hgrow5 hat5 _))
                have HB5 : Hid (Below w3.heap.size w3 w5) := (HB4.out.alloc zz4 _).drew.grown hgrow5 (by simp; omega) (fun k e => (own_base HO4.out e).1)
                have HO5 : Hid (w5.ownsRow w3.heap.size 31 6 (.slice (some ⟨g5, 0, none⟩) (A + 2) c5) (A + 2) (cellsL encT (l.take A ++ [⟨yc, yk, yd, yn, ym, yp⟩, ⟨xc, xk, xd, xn, xm, xp⟩]))) := by
                  show World.ownsRow _ _ _ _ _ _ _
                  rw [cellsL_append]
                  exact hown5
                have hwr2 : IntKind.i64.wrap ((A : Int) + 1 + 1) = (A : Int) + 1 + 1 := IntWalk.i64_in _ (by omega)
                have hc3 : (A : Int) + 1 + 1 ≤ (l.length : Int) := by omega
                have hc4 : (0 : Int) ≤ (A : Int) + 1 + 1 := by omega
                have hc5 : (A : Int) + 1 + 1 ≤ (cap : Int) := by omega
                clear hown5 hgrow5 hat5 HS4 HK4 HO4d
                have hd1 : (l.drop (A + 2)).length = l.length - (A + 1 + 1) := by rw [List.length_drop]
                have hd2 : (cellsL encT (l.drop (A + 2))).length = (l.length - (A + 1 + 1)) * 6 := by rw [cellsL_len (enc := encT) (size := 6) (fun _ => rfl), hd1]
                have HD1 := Lib.hid hd1
                have HD2 := Lib.hid hd2
                have HD3 := Lib.hid (cellsL_one encT_one (l.drop (A + 2)))
                have HL : Hid (madeS ((l.take A ++ [⟨yc, yk, yd, yn, ym, yp⟩, ⟨xc, xk, xd, xn, xm, xp⟩]) ++ l.drop (A + 2)) = S) := by
                  show _ = _
                  rw [made_turn HX.out HY.out HNE.out]
                  exact HS.out
                clear hd1 hd2
                by_cases hcc : cap = A + 2
                · obtain rfl := hcc
                  have hd4 : l.drop (A + 2) = [] := List.drop_eq_nil_of_le (by omega)
                  have HD4 : Hid (∀ (j : Nat) (u : Value), (cellsL encT (l.drop (A + 2)))[j]? = some u → w5.cell? ((⟨b, o, none⟩ : Addr).add j) = some u) := by
                    intro j u hu
                    rw [hd4] at hu
                    simp [cellsL] at hu
                  clear hd4
                  go_wp2_with (at_builtin; refine wpList_append_own _ rfl (.tmp 157) (.tmp 161) 22 rfl w3.heap.size 31 i0 _ 6 48 Try.underlying22 hi hi0 hi1 hi2 rfl (by decide) _ (A + 2) _ rfl HO5.out ⟨b, o, none⟩ (l.length - (A + 1 + 1)) _ (cellsL encT (l.drop (A + 2))) rfl HD2.out HD4.out HD3.out (by unfold maxLen; omega) (by omega) (by have := HB5.out.size; omega) ?_; intro v6 w6 hown6 hgrow6 _)
                  have hB6 : Below w3.heap.size w3 w6 := HB5.out.grown hgrow6 HB5.out.size (fun k e => (own_base HO5.out e).1)
                  have hn6 : ((l.take A ++ [(⟨yc, yk, yd, yn, ym, yp⟩ : Tl), ⟨xc, xk, xd, xn, xm, xp⟩]) ++ l.drop (A + 2)).length = A + 2 + (l.length - (A + 1 + 1)) := by
                    rw [List.length_append, List.length_append, HTA.out, HD1.out]
                    rfl
                  rw [← cellsL_append] at hown6
                  obtain ⟨a6, c6, rfl, _, _, _, _, hr6⟩ := owned_recs (enc := encT) (size := 6) (fun _ => rfl) hown6 hn6
                  have HR6 : Hid (ToldAt w6 a6 ((l.take A ++ [(⟨yc, yk, yd, yn, ym, yp⟩ : Tl), ⟨xc, xk, xd, xn, xm, xp⟩]) ++ l.drop (A + 2))) := ⟨hr6, fun z hz => by
                    have hok := HR3.out.ok
                    rcases List.mem_append.1 hz with hz | hz
                    · rcases List.mem_append.1 hz with hz | hz
                      · exact hok z (List.mem_of_mem_take hz)
                      · simp only [List.mem_cons, List.not_mem_nil, or_false] at hz
                        rcases hz with rfl | rfl
                        · exact hok _ (List.mem_of_getElem? HY.out)
                        · exact hok _ (List.mem_of_getElem? HX.out)
                    · exact hok z (List.mem_of_mem_drop hz)⟩
                  have HB6 := Lib.hid hB6
                  obtain ⟨L, hLL⟩ : ∃ L, (l.take A ++ [(⟨yc, yk, yd, yn, ym, yp⟩ : Tl), ⟨xc, xk, xd, xn, xm, xp⟩]) ++ l.drop (A + 2) = L := ⟨_, rfl⟩
                  rw [hLL] at HR6 HL hn6
                  have hL6 : L.length ≤ 40 := by omega
                  have HM := Lib.hid (made_ok a6 c6 L (by omega) w6 HR6.out)
                  rw [hn6, HL.out] at HM
                  have HN6 := Lib.hid hn6
                  clear hown6 hgrow6 hB6 hr6 hLL hn6
                  go_wp2_with fail
                  with_reducible refine HM.out.mono ?_
                  rintro e w7 ⟨p7, ba7, bc7, rfl, hF7, hb7, _, _, _⟩
                  have HB7 := Lib.hid (HB6.out.trans (hb7.mono HB6.out.size))
                  have HF7 := Lib.hid hF7
                  clear hF7 hb7 HM
                  have HFF := Lib.hid (HF3.out.after HB7.out)
                  go_wp2_with fail
                  with_reducible refine (same_ok p ba bc p7 ba7 bc7 S.1 S.1 S.2 S.2 _ HFF.out HF7.out (by omega) (by omega) (by omega) (by omega)).mono ?_
                  rintro e w8 ⟨rfl, hb8⟩
                  rw [show decide (S.1 = S.1 ∧ S.2 = S.2) = true from decide_eq_true ⟨rfl, rfl⟩]
                  have HB8 := Lib.hid (HB7.out.trans (hb8.mono HB7.out.size))
                  go_wp2_with fail
                  with_reducible refine (awake_ok _).mono ?_
                  rintro e w9 ⟨rfl, hb9⟩
                  go_wp2_with fail
                  go_ret
                  exact ⟨rfl, (HB3.out.trans (HB8.out.mono HB3.out.size)).trans (hb9.mono (HB3.out.trans (HB8.out.mono HB3.out.size)).size)⟩
                · have hd4 := RecsAt.src (RowsAt.after (recs_drop (HR3.out.at_) (A + 2)) HB5.out) (fun _ => rfl) rfl
                  have HD4 : Hid (∀ (j : Nat) (u : Value), (cellsL encT (l.drop (A + 2)))[j]? = some u → w5.cell? ((⟨b, o + (A + 1 + 1) * 6, none⟩ : Addr).add j) = some u) := hd4
                  have hcc' : ¬ cap = A + 1 + 1 := hcc
                  clear hd4 hcc
                  go_wp2_with (at_builtin; refine wpList_append_own _ rfl (.tmp 157) (.tmp 161) 22 rfl w3.heap.size 31 i0 _ 6 48 Try.underlying22 hi hi0 hi1 hi2 rfl (by decide) _ (A + 2) _ rfl HO5.out ⟨b, o + (A + 1 + 1) * 6, none⟩ (l.length - (A + 1 + 1)) _ (cellsL encT (l.drop (A + 2))) rfl HD2.out HD4.out HD3.out (by unfold maxLen; omega) (by omega) (by have := HB5.out.size; omega) ?_; intro v6 w6 hown6 hgrow6 _)
                  have hB6 : Below w3.heap.size w3 w6 := HB5.out.grown hgrow6 HB5.out.size (fun k e => (own_base HO5.out e).1)
                  have hn6 : ((l.take A ++ [(⟨yc, yk, yd, yn, ym, yp⟩ : Tl), ⟨xc, xk, xd, xn, xm, xp⟩]) ++ l.drop (A + 2)).length = A + 2 + (l.length - (A + 1 + 1)) := by
                    rw [List.length_append, List.length_append, HTA.out, HD1.out]
                    rfl
                  rw [← cellsL_append] at hown6
                  obtain ⟨a6, c6, rfl, _, _, _, _, hr6⟩ := owned_recs (enc := encT) (size := 6) (fun _ => rfl) hown6 hn6
                  have HR6 : Hid (ToldAt w6 a6 ((l.take A ++ [(⟨yc, yk, yd, yn, ym, yp⟩ : Tl), ⟨xc, xk, xd, xn, xm, xp⟩]) ++ l.drop (A + 2))) := ⟨hr6, fun z hz => by
                    have hok := HR3.out.ok
                    rcases List.mem_append.1 hz with hz | hz
                    · rcases List.mem_append.1 hz with hz | hz
                      · exact hok z (List.mem_of_mem_take hz)
                      · simp only [List.mem_cons, List.not_mem_nil, or_false] at hz
                        rcases hz with rfl | rfl
                        · exact hok _ (List.mem_of_getElem? HY.out)
                        · exact hok _ (List.mem_of_getElem? HX.out)
                    · exact hok z (List.mem_of_mem_drop hz)⟩
                  have HB6 := Lib.hid hB6
                  obtain ⟨L, hLL⟩ : ∃ L, (l.take A ++ [(⟨yc, yk, yd, yn, ym, yp⟩ : Tl), ⟨xc, xk, xd, xn, xm, xp⟩]) ++ l.drop (A + 2) = L := ⟨_, rfl⟩
                  rw [hLL] at HR6 HL hn6
                  have hL6 : L.length ≤ 40 := by omega
                  have HM := Lib.hid (made_ok a6 c6 L (by omega) w6 HR6.out)
                  rw [hn6, HL.out] at HM
                  have HN6 := Lib.hid hn6
                  clear hown6 hgrow6 hB6 hr6 hLL hn6
                  go_wp2_with fail
                  with_reducible refine HM.out.mono ?_
                  rintro e w7 ⟨p7, ba7, bc7, rfl, hF7, hb7, _, _, _⟩
                  have HB7 := Lib.hid (HB6.out.trans (hb7.mono HB6.out.size))
                  have HF7 := Lib.hid hF7
                  clear hF7 hb7 HM
                  have HFF := Lib.hid (HF3.out.after HB7.out)
                  go_wp2_with fail
                  with_reducible refine (same_ok p ba bc p7 ba7 bc7 S.1 S.1 S.2 S.2 _ HFF.out HF7.out (by omega) (by omega) (by omega) (by omega)).mono ?_
                  rintro e w8 ⟨rfl, hb8⟩
                  rw [show decide (S.1 = S.1 ∧ S.2 = S.2) = true from decide_eq_true ⟨rfl, rfl⟩]
                  have HB8 := Lib.hid (HB7.out.trans (hb8.mono HB7.out.size))
                  go_wp2_with fail
                  with_reducible refine (awake_ok _).mono ?_
                  rintro e w9 ⟨rfl, hb9⟩
                  go_wp2_with fail
                  go_ret
                  exact ⟨rfl, (HB3.out.trans (HB8.out.mono HB3.out.size)).trans (hb9.mono (HB3.out.trans (HB8.out.mono HB3.out.size)).size)⟩
            · have e2' : (xk == yk) = false := by simpa using e2
              have HNE : Hid (¬ (xc = yc ∧ xk = yk ∧ xd = yd)) := fun h => e2 h.2.1
              clear e2
              obtain ⟨i0, hi, hi0, hi1, hi2⟩ := info_parts infoTl
              have htA : (l.take A).length = A := by rw [List.length_take]; omega
              have hq1 : (cellsL encT (l.take A)).length = A * 6 := by rw [cellsL_len (enc := encT) (size := 6) (fun _ => rfl), htA]
              have hq2 := recs_take HR3.out.at_ A (by omega)
              have hq3 := cellsL_one encT_one (l.take A)
              have hq4 : ∀ n, ∀ (j : Nat) (u : Value), (cellsL encT (l.take A))[j]? = some u → (w3.drewN n).cell? ((⟨b, o, none⟩ : Addr).add j) = some u := fun n => RecsAt.src (RowsAt.after hq2 (below_draws w3 n)) (fun _ => rfl) rfl
              have HQ1 := Lib.hid hq1
              have HQ3 := Lib.hid hq3
              have HQ4 := Lib.hid hq4
              have HTA := Lib.hid htA
              clear hq1 hq2 hq3 hq4 htA
              have hc1 : (A : Int) ≤ (cap : Int) := by omega
              have hc2 : A ≤ cap := by omega
              go_wp2_with (first
                | go_quiet (fail)
                | (at_builtin; refine wpList_append_own _ rfl (.tmp 141) (.tmp 144) 22 rfl w3.heap.size 31 i0 _ 6 48 Try.underlying22 hi hi0 hi1 hi2 rfl (by decide) _ 0 [] rfl (World.ownsRow_nil _ _ _ _) ⟨b, o, none⟩ A cap (cellsL encT (l.take A)) rfl HQ1.out (HQ4.out _) HQ3.out (by unfold maxLen; omega) (by omega) (by simp) ?_; intro v4 w4 hown4 hgrow4 _))
              have hB4 : Below w3.heap.size w3 w4 := (below_draws w3 _).grown hgrow4 (by simp) (fun k e => by have e' : (none : Option Nat) = some k := e; cases e')
              have HO4 : Hid (w4.ownsRow w3.heap.size 31 6 v4 A (cellsL encT (l.take A))) := by
                show World.ownsRow _ _ _ _ _ _ _
                simpa only [Nat.zero_add, List.nil_append] using hown4
              have HB4 := Lib.hid hB4
              have hk4 : ∀ q, w4.cell? ⟨b, q, none⟩ = w3.cell? ⟨b, q, none⟩ := fun q => hB4.cell (p := ⟨b, q, none⟩) hbw3
              have HS4 := Lib.hid (show ∀ w' : World, (∀ q, w'.cell? ⟨b, q, none⟩ = w3.cell? ⟨b, q, none⟩) → w'.cell? ⟨b, o + A * 6, none⟩ = some (.bool xc) ∧ w'.cell? ⟨b, o + A * 6 + 1, none⟩ = some (.int .i64 xk) ∧ w'.cell? ⟨b, o + A * 6 + 2, none⟩ = some (.int .i64 xd) ∧ w'.cell? ⟨b, o + A * 6 + 3, none⟩ = some (.int .i64 xn) ∧ w'.cell? ⟨b, o + A * 6 + 4, none⟩ = some (.int .i64 xm) ∧ w'.cell? ⟨b, o + A * 6 + 5, none⟩ = some (.int .i64 xp) ∧ w'.cell? ⟨b, o + (A + 1) * 6, none⟩ = some (.bool yc) ∧ w'.cell? ⟨b, o + (A + 1) * 6 + 1, none⟩ = some (.int .i64 yk) ∧ w'.cell? ⟨b, o + (A + 1) * 6 + 2, none⟩ = some (.int .i64 yd) ∧ w'.cell? ⟨b, o + (A + 1) * 6 + 3, none⟩ = some (.int .i64 yn) ∧ w'.cell? ⟨b, o + (A + 1) * 6 + 4, none⟩ = some (.int .i64 ym) ∧ w'.cell? ⟨b, o + (A + 1) * 6 + 5, none⟩ = some (.int .i64 yp) from fun w' h => ⟨(h _).trans s0, (h _).trans s1, (h _).trans s2, (h _).trans s3, (h _).trans s4, (h _).trans s5, (h _).trans r0, (h _).trans r1, (h _).trans r2, (h _).trans r3, (h _).trans r4, (h _).trans r5⟩)
              have HK4 : Hid (∀ w' : World, Below w3.heap.size w3 w' → ∀ q, w'.cell? ⟨b, q, none⟩ = w3.cell? ⟨b, q, none⟩) := fun w' h q => h.cell (p := ⟨b, q, none⟩) hbw3
              clear hown4 hgrow4 hB4 hk4 s0 s1 s2 s3 s4 s5 r0 r1 r2 r3 r4 r5 HQ1 HQ3 HQ4
              have zz4 := HB4.out.size
              have HO4d := Lib.hid (fun o => own_after HO4.out ((Below.refl w4.heap.size w4).alloc (Nat.le_refl _) o).drew)
              go_region_held3 (fun w' => w'.cell? ⟨b, o + A * 6, none⟩ = some (.bool xc) ∧ w'.cell? ⟨b, o + A * 6 + 1, none⟩ = some (.int .i64 xk) ∧ w'.cell? ⟨b, o + A * 6 + 2, none⟩ = some (.int .i64 xd) ∧ w'.cell? ⟨b, o + A * 6 + 3, none⟩ = some (.int .i64 xn) ∧ w'.cell? ⟨b, o + A * 6 + 4, none⟩ = some (.int .i64 xm) ∧ w'.cell? ⟨b, o + A * 6 + 5, none⟩ = some (.int .i64 xp) ∧ w'.cell? ⟨b, o + (A + 1) * 6, none⟩ = some (.bool yc) ∧ w'.cell? ⟨b, o + (A + 1) * 6 + 1, none⟩ = some (.int .i64 yk) ∧ w'.cell? ⟨b, o + (A + 1) * 6 + 2, none⟩ = some (.int .i64 yd) ∧ w'.cell? ⟨b, o + (A + 1) * 6 + 3, none⟩ = some (.int .i64 yn) ∧ w'.cell? ⟨b, o + (A + 1) * 6 + 4, none⟩ = some (.int .i64 ym) ∧ w'.cell? ⟨b, o + (A + 1) * 6 + 5, none⟩ = some (.int .i64 yp))
                (first | with_reducible exact HS4.out _ (HK4.out _ HB4.out.drew) | with_reducible exact HS4.out _ (HK4.out _ (HB4.out.alloc zz4 _).drew) | with_reducible exact HS4.out _ (HK4.out _ ((HB4.out.alloc zz4 _).drew.grown hgrow5 (by simp; omega) (fun k e => (own_base HO4.out e).1))))
                ((refine step_append_lies _ (by rfl) _ _ _ (by rfl) w3.heap.size 31 i0 _ 6 48 Try.underlying22 hi hi0 hi1 hi2 rfl (by omega) _ A _ (by rfl) (HO4d.out _) ⟨w4.heap.size, 0, none⟩ 2 2 [.bool yc, .int .i64 yk, .int .i64 yd, .int .i64 yn, .int .i64 ym, .int .i64 yp, .bool xc, .int .i64 xk, .int .i64 xd, .int .i64 xn, .int .i64 xm, .int .i64 xp] (by rfl) (by rfl) (World.news_of_block (cs := #[.bool yc, .int .i64 yk, .int .i64 yd, .int .i64 yn, .int .i64 ym, .int .i64 yp, .bool xc, .int .i64 xk, .int .i64 xd, .int .i64 xn, .int .i64 xm, .int .i64 xp]) (t := 31) (fr := (0, 0)) (alloc_at (by simp))) (by simp [Value.oneCell']) (by omega) (by unfold maxLen; omega) (by omega) (by simp; omega) (w4.heap.size + 1) (by simp) ?_; intro g5 c5 w5 hown5 hgrow5 hat5 _))
              have HB5 : Hid (Below w3.heap.size w3 w5) := (HB4.out.alloc zz4 _).drew.grown hgrow5 (by simp; omega) (fun k e => (own_base HO4.out e).1)
              have HO5 : Hid (w5.ownsRow w3.heap.size 31 6 (.slice (some ⟨g5, 0, none⟩) (A + 2) c5) (A + 2) (cellsL encT (l.take A ++ [⟨yc, yk, yd, yn, ym, yp⟩, ⟨xc, xk, xd, xn, xm, xp⟩]))) := by
                show World.ownsRow _ _ _ _ _ _ _
                rw [cellsL_append]
                exact hown5
              have hwr2 : IntKind.i64.wrap ((A : Int) + 1 + 1) = (A : Int) + 1 + 1 := IntWalk.i64_in _ (by omega)
              have hc3 : (A : Int) + 1 + 1 ≤ (l.length : Int) := by omega
              have hc4 : (0 : Int) ≤ (A : Int) + 1 + 1 := by omega
              have hc5 : (A : Int) + 1 + 1 ≤ (cap : Int) := by omega
              clear hown5 hgrow5 hat5 HS4 HK4 HO4d
              have hd1 : (l.drop (A + 2)).length = l.length - (A + 1 + 1) := by rw [List.length_drop]
              have hd2 : (cellsL encT (l.drop (A + 2))).length = (l.length - (A + 1 + 1)) * 6 := by rw [cellsL_len (enc := encT) (size := 6) (fun _ => rfl), hd1]
              have HD1 := Lib.hid hd1
              have HD2 := Lib.hid hd2
              have HD3 := Lib.hid (cellsL_one encT_one (l.drop (A + 2)))
              have HL : Hid (madeS ((l.take A ++ [⟨yc, yk, yd, yn, ym, yp⟩, ⟨xc, xk, xd, xn, xm, xp⟩]) ++ l.drop (A + 2)) = S) := by
                show _ = _
                rw [made_turn HX.out HY.out HNE.out]
                exact HS.out
              clear hd1 hd2
              by_cases hcc : cap = A + 2
              · obtain rfl := hcc
                have hd4 : l.drop (A + 2) = [] := List.drop_eq_nil_of_le (by omega)
                have HD4 : Hid (∀ (j : Nat) (u : Value), (cellsL encT (l.drop (A + 2)))[j]? = some u → w5.cell? ((⟨b, o, none⟩ : Addr).add j) = some u) := by
                  intro j u hu
                  rw [hd4] at hu
                  simp [cellsL] at hu
                clear hd4
                go_wp2_with (at_builtin; refine wpList_append_own _ rfl (.tmp 157) (.tmp 161) 22 rfl w3.heap.size 31 i0 _ 6 48 Try.underlying22 hi hi0 hi1 hi2 rfl (by decide) _ (A + 2) _ rfl HO5.out ⟨b, o, none⟩ (l.length - (A + 1 + 1)) _ (cellsL encT (l.drop (A + 2))) rfl HD2.out HD4.out HD3.out (by unfold maxLen; omega) (by omega) (by have := HB5.out.size; omega) ?_; intro v6 w6 hown6 hgrow6 _)
                have hB6 : Below w3.heap.size w3 w6 := HB5.out.grown hgrow6 HB5.out.size (fun k e => (own_base HO5.out e).1)
                have hn6 : ((l.take A ++ [(⟨yc, yk, yd, yn, ym, yp⟩ : Tl), ⟨xc, xk, xd, xn, xm, xp⟩]) ++ l.drop (A + 2)).length = A + 2 + (l.length - (A + 1 + 1)) := by
                  rw [List.length_append, List.length_append, HTA.out, HD1.out]
                  rfl
                rw [← cellsL_append] at hown6
                obtain ⟨a6, c6, rfl, _, _, _, _, hr6⟩ := owned_recs (enc := encT) (size := 6) (fun _ => rfl) hown6 hn6
                have HR6 : Hid (ToldAt w6 a6 ((l.take A ++ [(⟨yc, yk, yd, yn, ym, yp⟩ : Tl), ⟨xc, xk, xd, xn, xm, xp⟩]) ++ l.drop (A + 2))) := ⟨hr6, fun z hz => by
                  have hok := HR3.out.ok
                  rcases List.mem_append.1 hz with hz | hz
                  · rcases List.mem_append.1 hz with hz | hz
                    · exact hok z (List.mem_of_mem_take hz)
                    · simp only [List.mem_cons, List.not_mem_nil, or_false] at hz
                      rcases hz with rfl | rfl
                      · exact hok _ (List.mem_of_getElem? HY.out)
                      · exact hok _ (List.mem_of_getElem? HX.out)
                  · exact hok z (List.mem_of_mem_drop hz)⟩
                have HB6 := Lib.hid hB6
                obtain ⟨L, hLL⟩ : ∃ L, (l.take A ++ [(⟨yc, yk, yd, yn, ym, yp⟩ : Tl), ⟨xc, xk, xd, xn, xm, xp⟩]) ++ l.drop (A + 2) = L := ⟨_, rfl⟩
                rw [hLL] at HR6 HL hn6
                have hL6 : L.length ≤ 40 := by omega
                have HM := Lib.hid (made_ok a6 c6 L (by omega) w6 HR6.out)
                rw [hn6, HL.out] at HM
                have HN6 := Lib.hid hn6
                clear hown6 hgrow6 hB6 hr6 hLL hn6
                go_wp2_with fail
                with_reducible refine HM.out.mono ?_
                rintro e w7 ⟨p7, ba7, bc7, rfl, hF7, hb7, _, _, _⟩
                have HB7 := Lib.hid (HB6.out.trans (hb7.mono HB6.out.size))
                have HF7 := Lib.hid hF7
                clear hF7 hb7 HM
                have HFF := Lib.hid (HF3.out.after HB7.out)
                go_wp2_with fail
                with_reducible refine (same_ok p ba bc p7 ba7 bc7 S.1 S.1 S.2 S.2 _ HFF.out HF7.out (by omega) (by omega) (by omega) (by omega)).mono ?_
                rintro e w8 ⟨rfl, hb8⟩
                rw [show decide (S.1 = S.1 ∧ S.2 = S.2) = true from decide_eq_true ⟨rfl, rfl⟩]
                have HB8 := Lib.hid (HB7.out.trans (hb8.mono HB7.out.size))
                go_wp2_with fail
                with_reducible refine (awake_ok _).mono ?_
                rintro e w9 ⟨rfl, hb9⟩
                go_wp2_with fail
                go_ret
                exact ⟨rfl, (HB3.out.trans (HB8.out.mono HB3.out.size)).trans (hb9.mono (HB3.out.trans (HB8.out.mono HB3.out.size)).size)⟩
              · have hd4 := RecsAt.src (RowsAt.after (recs_drop (HR3.out.at_) (A + 2)) HB5.out) (fun _ => rfl) rfl
                have HD4 : Hid (∀ (j : Nat) (u : Value), (cellsL encT (l.drop (A + 2)))[j]? = some u → w5.cell? ((⟨b, o + (A + 1 + 1) * 6, none⟩ : Addr).add j) = some u) := hd4
                have hcc' : ¬ cap = A + 1 + 1 := hcc
                clear hd4 hcc
                go_wp2_with (at_builtin; refine wpList_append_own _ rfl (.tmp 157) (.tmp 161) 22 rfl w3.heap.size 31 i0 _ 6 48 Try.underlying22 hi hi0 hi1 hi2 rfl (by decide) _ (A + 2) _ rfl HO5.out ⟨b, o + (A + 1 + 1) * 6, none⟩ (l.length - (A + 1 + 1)) _ (cellsL encT (l.drop (A + 2))) rfl HD2.out HD4.out HD3.out (by unfold maxLen; omega) (by omega) (by have := HB5.out.size; omega) ?_; intro v6 w6 hown6 hgrow6 _)
                have hB6 : Below w3.heap.size w3 w6 := HB5.out.grown hgrow6 HB5.out.size (fun k e => (own_base HO5.out e).1)
                have hn6 : ((l.take A ++ [(⟨yc, yk, yd, yn, ym, yp⟩ : Tl), ⟨xc, xk, xd, xn, xm, xp⟩]) ++ l.drop (A + 2)).length = A + 2 + (l.length - (A + 1 + 1)) := by
                  rw [List.length_append, List.length_append, HTA.out, HD1.out]
                  rfl
                rw [← cellsL_append] at hown6
                obtain ⟨a6, c6, rfl, _, _, _, _, hr6⟩ := owned_recs (enc := encT) (size := 6) (fun _ => rfl) hown6 hn6
                have HR6 : Hid (ToldAt w6 a6 ((l.take A ++ [(⟨yc, yk, yd, yn, ym, yp⟩ : Tl), ⟨xc, xk, xd, xn, xm, xp⟩]) ++ l.drop (A + 2))) := ⟨hr6, fun z hz => by
                  have hok := HR3.out.ok
                  rcases List.mem_append.1 hz with hz | hz
                  · rcases List.mem_append.1 hz with hz | hz
                    · exact hok z (List.mem_of_mem_take hz)
                    · simp only [List.mem_cons, List.not_mem_nil, or_false] at hz
                      rcases hz with rfl | rfl
                      · exact hok _ (List.mem_of_getElem? HY.out)
                      · exact hok _ (List.mem_of_getElem? HX.out)
                  · exact hok z (List.mem_of_mem_drop hz)⟩
                have HB6 := Lib.hid hB6
                obtain ⟨L, hLL⟩ : ∃ L, (l.take A ++ [(⟨yc, yk, yd, yn, ym, yp⟩ : Tl), ⟨xc, xk, xd, xn, xm, xp⟩]) ++ l.drop (A + 2) = L := ⟨_, rfl⟩
                rw [hLL] at HR6 HL hn6
                have hL6 : L.length ≤ 40 := by omega
                have HM := Lib.hid (made_ok a6 c6 L (by omega) w6 HR6.out)
                rw [hn6, HL.out] at HM
                have HN6 := Lib.hid hn6
                clear hown6 hgrow6 hB6 hr6 hLL hn6
                go_wp2_with fail
                with_reducible refine HM.out.mono ?_
                rintro e w7 ⟨p7, ba7, bc7, rfl, hF7, hb7, _, _, _⟩
                have HB7 := Lib.hid (HB6.out.trans (hb7.mono HB6.out.size))
                have HF7 := Lib.hid hF7
                clear hF7 hb7 HM
                have HFF := Lib.hid (HF3.out.after HB7.out)
                go_wp2_with fail
                with_reducible refine (same_ok p ba bc p7 ba7 bc7 S.1 S.1 S.2 S.2 _ HFF.out HF7.out (by omega) (by omega) (by omega) (by omega)).mono ?_
                rintro e w8 ⟨rfl, hb8⟩
                rw [show decide (S.1 = S.1 ∧ S.2 = S.2) = true from decide_eq_true ⟨rfl, rfl⟩]
                have HB8 := Lib.hid (HB7.out.trans (hb8.mono HB7.out.size))
                go_wp2_with fail
                with_reducible refine (awake_ok _).mono ?_
                rintro e w9 ⟨rfl, hb9⟩
                go_wp2_with fail
                go_ret
                exact ⟨rfl, (HB3.out.trans (HB8.out.mono HB3.out.size)).trans (hb9.mono (HB3.out.trans (HB8.out.mono HB3.out.size)).size)⟩
          · have e1' : (xc == yc) = false := by simpa using e1
            have HNE : Hid (¬ (xc = yc ∧ xk = yk ∧ xd = yd)) := fun h => e1 h.1
            clear e1
            obtain ⟨i0, hi, hi0, hi1, hi2⟩ := info_parts infoTl
            have htA : (l.take A).length = A := by rw [List.length_take]; omega
            have hq1 : (cellsL encT (l.take A)).length = A * 6 := by rw [cellsL_len (enc := encT) (size := 6) (fun _ => rfl), htA]
            have hq2 := recs_take HR3.out.at_ A (by omega)
            have hq3 := cellsL_one encT_one (l.take A)
            have hq4 : ∀ n, ∀ (j : Nat) (u : Value), (cellsL encT (l.take A))[j]? = some u → (w3.drewN n).cell? ((⟨b, o, none⟩ : Addr).add j) = some u := fun n => RecsAt.src (RowsAt.after hq2 (below_draws w3 n)) (fun _ => rfl) rfl
            have HQ1 := Lib.hid hq1
            have HQ3 := Lib.hid hq3
            have HQ4 := Lib.hid hq4
            have HTA := Lib.hid htA
            clear hq1 hq2 hq3 hq4 htA
            have hc1 : (A : Int) ≤ (cap : Int) := by omega
            have hc2 : A ≤ cap := by omega
            go_wp2_with (first
              | go_quiet (fail)
              | (at_builtin; refine wpList_append_own _ rfl (.tmp 141) (.tmp 144) 22 rfl w3.heap.size 31 i0 _ 6 48 Try.underlying22 hi hi0 hi1 hi2 rfl (by decide) _ 0 [] rfl (World.ownsRow_nil _ _ _ _) ⟨b, o, none⟩ A cap (cellsL encT (l.take A)) rfl HQ1.out (HQ4.out _) HQ3.out (by unfold maxLen; omega) (by omega) (by simp) ?_; intro v4 w4 hown4 hgrow4 _))
            have hB4 : Below w3.heap.size w3 w4 := (below_draws w3 _).grown hgrow4 (by simp) (fun k e => by have e' : (none : Option Nat) = some k := e; cases e')
            have HO4 : Hid (w4.ownsRow w3.heap.size 31 6 v4 A (cellsL encT (l.take A))) := by
              show World.ownsRow _ _ _ _ _ _ _
              simpa only [Nat.zero_add, List.nil_append] using hown4
            have HB4 := Lib.hid hB4
            have hk4 : ∀ q, w4.cell? ⟨b, q, none⟩ = w3.cell? ⟨b, q, none⟩ := fun q => hB4.cell (p := ⟨b, q, none⟩) hbw3
            have HS4 := Lib.hid (show ∀ w' : World, (∀ q, w'.cell? ⟨b, q, none⟩ = w3.cell? ⟨b, q, none⟩) → w'.cell? ⟨b, o + A * 6, none⟩ = some (.bool xc) ∧ w'.cell? ⟨b, o + A * 6 + 1, none⟩ = some (.int .i64 xk) ∧ w'.cell? ⟨b, o + A * 6 + 2, none⟩ = some (.int .i64 xd) ∧ w'.cell? ⟨b, o + A * 6 + 3, none⟩ = some (.int .i64 xn) ∧ w'.cell? ⟨b, o + A * 6 + 4, none⟩ = some (.int .i64 xm) ∧ w'.cell? ⟨b, o + A * 6 + 5, none⟩ = some (.int .i64 xp) ∧ w'.cell? ⟨b, o + (A + 1) * 6, none⟩ = some (.bool yc) ∧ w'.cell? ⟨b, o + (A + 1) * 6 + 1, none⟩ = some (.int .i64 yk) ∧ w'.cell? ⟨b, o + (A + 1) * 6 + 2, none⟩ = some (.int .i64 yd) ∧ w'.cell? ⟨b, o + (A + 1) * 6 + 3, none⟩ = some (.int .i64 yn) ∧ w'.cell? ⟨b, o + (A + 1) * 6 + 4, none⟩ = some (.int .i64 ym) ∧ w'.cell? ⟨b, o + (A + 1) * 6 + 5, none⟩ = some (.int .i64 yp) from fun w' h => ⟨(h _).trans s0, (h _).trans s1, (h _).trans s2, (h _).trans s3, (h _).trans s4, (h _).trans s5, (h _).trans r0, (h _).trans r1, (h _).trans r2, (h _).trans r3, (h _).trans r4, (h _).trans r5⟩)
            have HK4 : Hid (∀ w' : World, Below w3.heap.size w3 w' → ∀ q, w'.cell? ⟨b, q, none⟩ = w3.cell? ⟨b, q, none⟩) := fun w' h q => h.cell (p := ⟨b, q, none⟩) hbw3
            clear hown4 hgrow4 hB4 hk4 s0 s1 s2 s3 s4 s5 r0 r1 r2 r3 r4 r5 HQ1 HQ3 HQ4
            have zz4 := HB4.out.size
            have HO4d := Lib.hid (fun o => own_after HO4.out ((Below.refl w4.heap.size w4).alloc (Nat.le_refl _) o).drew)
            go_region_held3 (fun w' => w'.cell? ⟨b, o + A * 6, none⟩ = some (.bool xc) ∧ w'.cell? ⟨b, o + A * 6 + 1, none⟩ = some (.int .i64 xk) ∧ w'.cell? ⟨b, o + A * 6 + 2, none⟩ = some (.int .i64 xd) ∧ w'.cell? ⟨b, o + A * 6 + 3, none⟩ = some (.int .i64 xn) ∧ w'.cell? ⟨b, o + A * 6 + 4, none⟩ = some (.int .i64 xm) ∧ w'.cell? ⟨b, o + A * 6 + 5, none⟩ = some (.int .i64 xp) ∧ w'.cell? ⟨b, o + (A + 1) * 6, none⟩ = some (.bool yc) ∧ w'.cell? ⟨b, o + (A + 1) * 6 + 1, none⟩ = some (.int .i64 yk) ∧ w'.cell? ⟨b, o + (A + 1) * 6 + 2, none⟩ = some (.int .i64 yd) ∧ w'.cell? ⟨b, o + (A + 1) * 6 + 3, none⟩ = some (.int .i64 yn) ∧ w'.cell? ⟨b, o + (A + 1) * 6 + 4, none⟩ = some (.int .i64 ym) ∧ w'.cell? ⟨b, o + (A + 1) * 6 + 5, none⟩ = some (.int .i64 yp))
              (first | with_reducible exact HS4.out _ (HK4.out _ HB4.out.drew) | with_reducible exact HS4.out _ (HK4.out _ (HB4.out.alloc zz4 _).drew) | with_reducible exact HS4.out _ (HK4.out _ ((HB4.out.alloc zz4 _).drew.grown hgrow5 (by simp; omega) (fun k e => (own_base HO4.out e).1))))
              ((refine step_append_lies _ (by rfl) _ _ _ (by rfl) w3.heap.size 31 i0 _ 6 48 Try.underlying22 hi hi0 hi1 hi2 rfl (by omega) _ A _ (by rfl) (HO4d.out _) ⟨w4.heap.size, 0, none⟩ 2 2 [.bool yc, .int .i64 yk, .int .i64 yd, .int .i64 yn, .int .i64 ym, .int .i64 yp, .bool xc, .int .i64 xk, .int .i64 xd, .int .i64 xn, .int .i64 xm, .int .i64 xp] (by rfl) (by rfl) (World.news_of_block (cs := #[.bool yc, .int .i64 yk, .int .i64 yd, .int .i64 yn, .int .i64 ym, .int .i64 yp, .bool xc, .int .i64 xk, .int .i64 xd, .int .i64 xn, .int .i64 xm, .int .i64 xp]) (t := 31) (fr := (0, 0)) (alloc_at (by simp))) (by simp [Value.oneCell']) (by omega) (by unfold maxLen; omega) (by omega) (by simp; omega) (w4.heap.size + 1) (by simp) ?_; intro g5 c5 w5 hown5 hgrow5 hat5 _))
            have HB5 : Hid (Below w3.heap.size w3 w5) := (HB4.out.alloc zz4 _).drew.grown hgrow5 (by simp; omega) (fun k e => (own_base HO4.out e).1)
            have HO5 : Hid (w5.ownsRow w3.heap.size 31 6 (.slice (some ⟨g5, 0, none⟩) (A + 2) c5) (A + 2) (cellsL encT (l.take A ++ [⟨yc, yk, yd, yn, ym, yp⟩, ⟨xc, xk, xd, xn, xm, xp⟩]))) := by
              show World.ownsRow _ _ _ _ _ _ _
              rw [cellsL_append]
              exact hown5
            have hwr2 : IntKind.i64.wrap ((A : Int) + 1 + 1) = (A : Int) + 1 + 1 := IntWalk.i64_in _ (by omega)
            have hc3 : (A : Int) + 1 + 1 ≤ (l.length : Int) := by omega
            have hc4 : (0 : Int) ≤ (A : Int) + 1 + 1 := by omega
            have hc5 : (A : Int) + 1 + 1 ≤ (cap : Int) := by omega
            clear hown5 hgrow5 hat5 HS4 HK4 HO4d
            have hd1 : (l.drop (A + 2)).length = l.length - (A + 1 + 1) := by rw [List.length_drop]
            have hd2 : (cellsL encT (l.drop (A + 2))).length = (l.length - (A + 1 + 1)) * 6 := by rw [cellsL_len (enc := encT) (size := 6) (fun _ => rfl), hd1]
            have HD1 := Lib.hid hd1
            have HD2 := Lib.hid hd2
            have HD3 := Lib.hid (cellsL_one encT_one (l.drop (A + 2)))
            have HL : Hid (madeS ((l.take A ++ [⟨yc, yk, yd, yn, ym, yp⟩, ⟨xc, xk, xd, xn, xm, xp⟩]) ++ l.drop (A + 2)) = S) := by
              show _ = _
              rw [made_turn HX.out HY.out HNE.out]
              exact HS.out
            clear hd1 hd2
            by_cases hcc : cap = A + 2
            · obtain rfl := hcc
              have hd4 : l.drop (A + 2) = [] := List.drop_eq_nil_of_le (by omega)
              have HD4 : Hid (∀ (j : Nat) (u : Value), (cellsL encT (l.drop (A + 2)))[j]? = some u → w5.cell? ((⟨b, o, none⟩ : Addr).add j) = some u) := by
                intro j u hu
                rw [hd4] at hu
                simp [cellsL] at hu
              clear hd4
              go_wp2_with (at_builtin; refine wpList_append_own _ rfl (.tmp 157) (.tmp 161) 22 rfl w3.heap.size 31 i0 _ 6 48 Try.underlying22 hi hi0 hi1 hi2 rfl (by decide) _ (A + 2) _ rfl HO5.out ⟨b, o, none⟩ (l.length - (A + 1 + 1)) _ (cellsL encT (l.drop (A + 2))) rfl HD2.out HD4.out HD3.out (by unfold maxLen; omega) (by omega) (by have := HB5.out.size; omega) ?_; intro v6 w6 hown6 hgrow6 _)
              have hB6 : Below w3.heap.size w3 w6 := HB5.out.grown hgrow6 HB5.out.size (fun k e => (own_base HO5.out e).1)
              have hn6 : ((l.take A ++ [(⟨yc, yk, yd, yn, ym, yp⟩ : Tl), ⟨xc, xk, xd, xn, xm, xp⟩]) ++ l.drop (A + 2)).length = A + 2 + (l.length - (A + 1 + 1)) := by
                rw [List.length_append, List.length_append, HTA.out, HD1.out]
                rfl
              rw [← cellsL_append] at hown6
              obtain ⟨a6, c6, rfl, _, _, _, _, hr6⟩ := owned_recs (enc := encT) (size := 6) (fun _ => rfl) hown6 hn6
              have HR6 : Hid (ToldAt w6 a6 ((l.take A ++ [(⟨yc, yk, yd, yn, ym, yp⟩ : Tl), ⟨xc, xk, xd, xn, xm, xp⟩]) ++ l.drop (A + 2))) := ⟨hr6, fun z hz => by
                have hok := HR3.out.ok
                rcases List.mem_append.1 hz with hz | hz
                · rcases List.mem_append.1 hz with hz | hz
                  · exact hok z (List.mem_of_mem_take hz)
                  · simp only [List.mem_cons, List.not_mem_nil, or_false] at hz
                    rcases hz with rfl | rfl
                    · exact hok _ (List.mem_of_getElem? HY.out)
                    · exact hok _ (List.mem_of_getElem? HX.out)
                · exact hok z (List.mem_of_mem_drop hz)⟩
              have HB6 := Lib.hid hB6
              obtain ⟨L, hLL⟩ : ∃ L, (l.take A ++ [(⟨yc, yk, yd, yn, ym, yp⟩ : Tl), ⟨xc, xk, xd, xn, xm, xp⟩]) ++ l.drop (A + 2) = L := ⟨_, rfl⟩
              rw [hLL] at HR6 HL hn6
              have hL6 : L.length ≤ 40 := by omega
              have HM := Lib.hid (made_ok a6 c6 L (by omega) w6 HR6.out)
              rw [hn6, HL.out] at HM
              have HN6 := Lib.hid hn6
              clear hown6 hgrow6 hB6 hr6 hLL hn6
              go_wp2_with fail
              with_reducible refine HM.out.mono ?_
              rintro e w7 ⟨p7, ba7, bc7, rfl, hF7, hb7, _, _, _⟩
              have HB7 := Lib.hid (HB6.out.trans (hb7.mono HB6.out.size))
              have HF7 := Lib.hid hF7
              clear hF7 hb7 HM
              have HFF := Lib.hid (HF3.out.after HB7.out)
              go_wp2_with fail
              with_reducible refine (same_ok p ba bc p7 ba7 bc7 S.1 S.1 S.2 S.2 _ HFF.out HF7.out (by omega) (by omega) (by omega) (by omega)).mono ?_
              rintro e w8 ⟨rfl, hb8⟩
              rw [show decide (S.1 = S.1 ∧ S.2 = S.2) = true from decide_eq_true ⟨rfl, rfl⟩]
              have HB8 := Lib.hid (HB7.out.trans (hb8.mono HB7.out.size))
              go_wp2_with fail
              with_reducible refine (awake_ok _).mono ?_
              rintro e w9 ⟨rfl, hb9⟩
              go_wp2_with fail
              go_ret
              exact ⟨rfl, (HB3.out.trans (HB8.out.mono HB3.out.size)).trans (hb9.mono (HB3.out.trans (HB8.out.mono HB3.out.size)).size)⟩
            · have hd4 := RecsAt.src (RowsAt.after (recs_drop (HR3.out.at_) (A + 2)) HB5.out) (fun _ => rfl) rfl
              have HD4 : Hid (∀ (j : Nat) (u : Value), (cellsL encT (l.drop (A + 2)))[j]? = some u → w5.cell? ((⟨b, o + (A + 1 + 1) * 6, none⟩ : Addr).add j) = some u) := hd4
              have hcc' : ¬ cap = A + 1 + 1 := hcc
              clear hd4 hcc
              go_wp2_with (at_builtin; refine wpList_append_own _ rfl (.tmp 157) (.tmp 161) 22 rfl w3.heap.size 31 i0 _ 6 48 Try.underlying22 hi hi0 hi1 hi2 rfl (by decide) _ (A + 2) _ rfl HO5.out ⟨b, o + (A + 1 + 1) * 6, none⟩ (l.length - (A + 1 + 1)) _ (cellsL encT (l.drop (A + 2))) rfl HD2.out HD4.out HD3.out (by unfold maxLen; omega) (by omega) (by have := HB5.out.size; omega) ?_; intro v6 w6 hown6 hgrow6 _)
              have hB6 : Below w3.heap.size w3 w6 := HB5.out.grown hgrow6 HB5.out.size (fun k e => (own_base HO5.out e).1)
              have hn6 : ((l.take A ++ [(⟨yc, yk, yd, yn, ym, yp⟩ : Tl), ⟨xc, xk, xd, xn, xm, xp⟩]) ++ l.drop (A + 2)).length = A + 2 + (l.length - (A + 1 + 1)) := by
                rw [List.length_append, List.length_append, HTA.out, HD1.out]
                rfl
              rw [← cellsL_append] at hown6
              obtain ⟨a6, c6, rfl, _, _, _, _, hr6⟩ := owned_recs (enc := encT) (size := 6) (fun _ => rfl) hown6 hn6
              have HR6 : Hid (ToldAt w6 a6 ((l.take A ++ [(⟨yc, yk, yd, yn, ym, yp⟩ : Tl), ⟨xc, xk, xd, xn, xm, xp⟩]) ++ l.drop (A + 2))) := ⟨hr6, fun z hz => by
                have hok := HR3.out.ok
                rcases List.mem_append.1 hz with hz | hz
                · rcases List.mem_append.1 hz with hz | hz
                  · exact hok z (List.mem_of_mem_take hz)
                  · simp only [List.mem_cons, List.not_mem_nil, or_false] at hz
                    rcases hz with rfl | rfl
                    · exact hok _ (List.mem_of_getElem? HY.out)
                    · exact hok _ (List.mem_of_getElem? HX.out)
                · exact hok z (List.mem_of_mem_drop hz)⟩
              have HB6 := Lib.hid hB6
              obtain ⟨L, hLL⟩ : ∃ L, (l.take A ++ [(⟨yc, yk, yd, yn, ym, yp⟩ : Tl), ⟨xc, xk, xd, xn, xm, xp⟩]) ++ l.drop (A + 2) = L := ⟨_, rfl⟩
              rw [hLL] at HR6 HL hn6
              have hL6 : L.length ≤ 40 := by omega
              have HM := Lib.hid (made_ok a6 c6 L (by omega) w6 HR6.out)
              rw [hn6, HL.out] at HM
              have HN6 := Lib.hid hn6
              clear hown6 hgrow6 hB6 hr6 hLL hn6
              go_wp2_with fail
              with_reducible refine HM.out.mono ?_
              rintro e w7 ⟨p7, ba7, bc7, rfl, hF7, hb7, _, _, _⟩
              have HB7 := Lib.hid (HB6.out.trans (hb7.mono HB6.out.size))
              have HF7 := Lib.hid hF7
              clear hF7 hb7 HM
              have HFF := Lib.hid (HF3.out.after HB7.out)
              go_wp2_with fail
              with_reducible refine (same_ok p ba bc p7 ba7 bc7 S.1 S.1 S.2 S.2 _ HFF.out HF7.out (by omega) (by omega) (by omega) (by omega)).mono ?_
              rintro e w8 ⟨rfl, hb8⟩
              rw [show decide (S.1 = S.1 ∧ S.2 = S.2) = true from decide_eq_true ⟨rfl, rfl⟩]
              have HB8 := Lib.hid (HB7.out.trans (hb8.mono HB7.out.size))
              go_wp2_with fail
              with_reducible refine (awake_ok _).mono ?_
              rintro e w9 ⟨rfl, hb9⟩
              go_wp2_with fail
              go_ret
              exact ⟨rfl, (HB3.out.trans (HB8.out.mono HB3.out.size)).trans (hb9.mono (HB3.out.trans (HB8.out.mono HB3.out.size)).size)⟩
      · have c3' : (ub == (A : Int) + 1) = false := by simpa using c3
        have c3'' : (ub != (A : Int) + 1) = true := by simpa using c3
        have hwr := HWR.out
        clear c3
        go_wp2_with (go_quiet (fail))
        with_reducible refine (awake_ok _).mono ?_
        rintro e w9 ⟨rfl, hb9⟩
        go_wp2_with fail
        go_ret
        exact ⟨rfl, (HB3.out.trans ((below_draws w3 _).mono HB3.out.size)).trans (hb9.mono (HB3.out.trans ((below_draws w3 _).mono HB3.out.size)).size)⟩

set_option maxRecDepth 100000 in
open Go.ChangeShapes Go.WideShapes Go.ChangeAt in
theorem walk_FactsOrder {H : Type} (enc : TypeId × Value → H) (base : Nat) (W : World) (v : Value) (d : DataW H) (p : List MemPlace) (h : DataW.Trod enc Try.prog W 0 (fun _ => true) true 22 v d p) (ok : Value.okWide Try.prog W .any base 22 v)
    (v' : Value) (d' : DataW H) (p' : List MemPlace) (h' : DataW.Trod enc Try.prog W 0 (fun _ => true) true 47 v' d' p') (ok' : Value.okWide Try.prog W .any base 47 v') :
    Calls Try.prog 4 #[v, v'] W fun e w' => e = .returned (.bool true) ∧ Below W.heap.size W w' := by
  obtain ⟨a, cap, l, rfl, hl, hc, _, hT⟩ := told_arg h ok
  obtain ⟨t0, t1, rfl, h0, h1⟩ := two_arg h' ok'
  exact order_law a cap l t0 t1 h0 h1 hl hc W hT

end Go.Proofs.Ytfimgdjpnlcckaa
