/- The statement BitempCodes: the walk. -/
import Derived.Test.YtkloijkfaooodaaBitCc
import Derived.Test.YtkloijkfaooodaaBitCd
import Derived.Test.YtkloijkfaooodaaBitDc
namespace Go.Proofs.Ytkloijkfaooodaa
open Go.RowKit Go.Shelf
set_option linter.unusedVariables false
set_option linter.unusedSimpArgs false

theorem byC_cells (bs : List Int) : cellsL encY bs = byC bs := by
  induction bs with
  | nil => rfl
  | cons b l ih =>
    show encY b ++ cellsL encY l = _
    rw [ih]
    rfl
theorem row_bytes {w : World} {base : Nat} {v : Value} {bs : List Int} (h : w.ownsRow base 5 1 v bs.length (byC bs)) : ∃ a cap, v = .slice a bs.length cap ∧ bs.length ≤ cap ∧ cap ≤ 9223372036854775807 ∧ RecsAt w a 1 encY bs := by
  rw [← byC_cells] at h
  obtain ⟨a, cap, e, _, h1, h2, _, hR⟩ := owned_recs (enc := encY) (size := 1) (fun _ => rfl) h rfl
  have hm : maxLen = 9223372036854775807 := rfl
  exact ⟨a, cap, e, h1, by omega, hR⟩
theorem encL_is (V : List Vs) : IsB (encL V) := by
  intro x hx
  unfold encL at hx
  obtain ⟨v, _, hv⟩ := List.mem_flatMap.1 hx
  unfold bytesV numsL at hv
  obtain ⟨y, _, hy⟩ := List.mem_flatMap.1 hv
  exact numB_is _ _ x hy
theorem codes_dec {V : List Vs} (h : Acc V) {w w' : World} {e : Ending} (hd : DecodeEnd w (encL V) e w') : ∃ p bm sv, e = .returned (.tuple #[.pointer (some ⟨p, 0, none⟩), .int .i64 0]) ∧ StAt w' w.heap.size p bm sv V := by
  have hl := encL_len V
  have hE := enc_dec h
  rcases hd.2 with ⟨h1, _⟩ | ⟨m, k, hm, hk, _, hne, _⟩ | ⟨m, hm, _, p, bm, sv, he, hst⟩
  · omega
  · exact absurd (hE.2 k (by omega)) hne
  · obtain rfl : m = V.length := by omega
    rw [hE.1] at hst
    exact ⟨p, bm, sv, he, hst⟩
set_option maxHeartbeats 8000000 in
set_option maxRecDepth 100000 in
theorem codes_law (a : Option Addr) (cap : Nat) (l : List Vs) (hl : l.length ≤ 2513169434880) (a' : Option Addr) (cap' : Nat) (bs : List Int) (hcb : bs.length ≤ cap') (hcb2 : cap' ≤ 9223372036854775807) (hB : IsB bs) (w : World) (h : VersAt w a l) (h' : RecsAt w a' 1 encY bs) :
    Calls Try.prog 6 #[.slice a l.length cap, .slice a' bs.length cap'] w (Tr12 w) := by
  obtain ⟨i0, hi, hi0, hi1, hi2⟩ := info_parts infoU8
  have HV := Lib.hid h
  have HR := Lib.hid h'
  have HBy := Lib.hid hB
  have HAcc : Hid (Acc (runV [] l)) := Acc.nil.run (fun v hv => ⟨(h.2 v hv).s, (h.2 v hv).n, (h.2 v hv).m⟩)
  clear h h' hB
  go_enter Try.func6, Try.ntmps6
  go_wp2_with fail
  with_reducible refine (built_ok a cap l hl w HV.out).mono ?_
  rintro e w1 ⟨p, bm, sv, rp, rv, rfl, hbo, hb1⟩
  have HBo := Lib.hid hbo
  have HB1 := Lib.hid hb1
  have z1 := hb1.size
  clear hbo hb1
  by_cases h40 : 40 < l.length
  · have d1 : decide (40 < l.length) = true := decide_eq_true h40
    have d2 : decide ((40 : Int) < (l.length : Int)) = true := decide_eq_true (by omega)
    clear h40
    go_wp2_with fail
    with_reducible refine (awake_ok12 _).mono ?_
    rintro e w99 ⟨rfl, hb99⟩
    go_wp2_with fail
    go_ret
    exact ⟨rfl, HB1.out.trans (hb99.mono (HB1.out).size)⟩
  · have d1 : decide (40 < l.length) = false := decide_eq_false h40
    have d2 : decide ((40 : Int) < (l.length : Int)) = false := decide_eq_false (by omega)
    by_cases h400 : 400 < bs.length
    · have d3 : decide (400 < bs.length) = true := decide_eq_true h400
      have d4 : decide ((400 : Int) < (bs.length : Int)) = true := decide_eq_true (by omega)
      clear h40 h400
      go_wp2_with fail
      with_reducible refine (awake_ok12 _).mono ?_
      rintro e w99 ⟨rfl, hb99⟩
      go_wp2_with fail
      go_ret
      exact ⟨rfl, HB1.out.trans (hb99.mono (HB1.out).size)⟩
    · have d3 : decide (400 < bs.length) = false := decide_eq_false h400
      have d4 : decide ((400 : Int) < (bs.length : Int)) = false := decide_eq_false (by omega)
      have hb400 : bs.length ≤ 400 := by omega
      have hVl : (runV [] l).length ≤ 40 := by have := runV_len [] l; simp at this; omega
      obtain ⟨V, hVe⟩ : ∃ V, runV [] l = V := ⟨_, rfl⟩
      rw [hVe] at HBo HAcc hVl
      obtain ⟨ra, rc, hrv, _, _, _, _, hRR⟩ := owned_recs (enc := encR) (size := 7) (fun _ => rfl) HBo.out.rf.own rfl
      subst hrv
      have HRR := Lib.hid hRR
      clear h40 h400 hVe hRR
      go_wp2_with fail
      go_loopw [7, 8] (fun u i wr => ∃ j : Nat, j ≤ V.length ∧ i = .int .i64 j ∧ Hid (wr.ownsRow w1.heap.size 5 1 u (encL (V.take j)).length (byC (encL (V.take j)))) ∧ Hid (Below w1.heap.size w1 wr)) (fun _ i _ => V.length - (intOf i).toNat)
      case atStart => exact ⟨0, by omega, rfl, World.ownsRow_nil _ _ _ _, Below.refl _ _⟩
      case round =>
        obtain ⟨j, hj, rfl, HO, HBr⟩ := hrel
        have c0 : wr.cell? ⟨rp, 0, none⟩ = some (.slice ra V.length rc) := (HBo.out.rf.after HBr.out).blk.cell 0 rfl
        by_cases hlt : j < V.length
        · have hx := List.getElem?_eq_getElem hlt
          obtain ⟨x, hy⟩ : ∃ x, V[j] = x := ⟨_, rfl⟩
          have hT : encL (V.take (j + 1)) = encL (V.take j) ++ bytesV x := by
            rw [List.take_succ_eq_append_getElem hlt, hy, encL_snoc]
          rw [hy] at hx
          have HT := Lib.hid hT
          have hRr : RecsAt wr ra 7 encR V := RowsAt.after HRR.out HBr.out
          obtain ⟨b, o, rfl, _⟩ := hRr (by omega)
          obtain ⟨xs, xc, xk, xd, xn, xm, xp⟩ := x
          have t0 : wr.cell? ⟨b, o + j * 7, none⟩ = some (.int .i64 xs) := RecsAt.cell hRr rfl hlt hx (j := 0) rfl
          have t1 : wr.cell? ⟨b, o + j * 7 + 1, none⟩ = some (.int .i64 (kindV xc)) := RecsAt.cell hRr rfl hlt hx (j := 1) rfl
          have t2 : wr.cell? ⟨b, o + j * 7 + 2, none⟩ = some (.int .i64 xk) := RecsAt.cell hRr rfl hlt hx (j := 2) rfl
          have t3 : wr.cell? ⟨b, o + j * 7 + 3, none⟩ = some (.int .i64 xd) := RecsAt.cell hRr rfl hlt hx (j := 3) rfl
          have t4 : wr.cell? ⟨b, o + j * 7 + 4, none⟩ = some (.int .i64 xn) := RecsAt.cell hRr rfl hlt hx (j := 4) rfl
          have t5 : wr.cell? ⟨b, o + j * 7 + 5, none⟩ = some (.int .i64 xm) := RecsAt.cell hRr rfl hlt hx (j := 5) rfl
          have t6 : wr.cell? ⟨b, o + j * 7 + 6, none⟩ = some (.int .i64 xp) := RecsAt.cell hRr rfl hlt hx (j := 6) rfl
          have i1 : (0 : Int) ≤ (j : Int) := by omega
          have i2 : (j : Int) < (V.length : Int) := by omega
          have HBt : Hid (Calls Try.prog 24 #[.agg #[.int .i64 xs, .int .i64 (kindV xc), .int .i64 xk, .int .i64 xd, .int .i64 xn, .int .i64 xm, .int .i64 xp]] wr (RowB wr wr.heap.size (bytesV ⟨xs, xc, xk, xd, xn, xm, xp⟩))) := rbytes_ok ⟨xs, xc, xk, xd, xn, xm, xp⟩ wr
          have hNl : (encL (V.take j)).length ≤ 1240 := by rw [encL_len]; simp; omega
          obtain ⟨N, hN⟩ : ∃ N, (encL (V.take j)).length = N := ⟨_, rfl⟩
          rw [hN] at hNl HO
          have HN := Lib.hid hN
          clear hx hy hT hRr hN
          go_wp2_with fail
          with_reducible refine HBt.out.mono ?_
          rintro e w3 ⟨nv, rfl, hown, hb3⟩
          clear t0 t1 t2 t3 t4 t5 t6 c0 HBt
          have hcA := own_after HO.out hb3
          rw [bytesV_len] at hown
          obtain ⟨na, nc, rfl, _, _, _, _, h4⟩ := owned_parts hown
          obtain ⟨nb, no, rfl, hnc⟩ := h4 (by omega)
          have hnews : ∀ (j : Nat) (u : Value), (byC (bytesV ⟨xs, xc, xk, xd, xn, xm, xp⟩))[j]? = some u → w3.cell? ((⟨nb, no, none⟩ : Addr).add j) = some u := fun j u hu => by
            have hj := (List.getElem?_eq_some_iff.1 hu).1
            rw [byC_len, bytesV_len] at hj
            have h2 := hnc j (by omega)
            dsimp only at h2
            rw [List.getD_eq_getElem?_getD, hu] at h2
            rw [add_plain]
            exact h2
          have HNw := Lib.hid hnews
          have z3 := HBr.out.size
          have z33 := hb3.size
          have HBr3 := Lib.hid (HBr.out.trans (hb3.mono HBr.out.size))
          clear hown h4 hnc hnews hb3
          go_wp2_with (at_builtin; refine wpList_append_own _ rfl _ _ 52 rfl w1.heap.size 5 i0 _ 1 1 Try.underlying52 hi hi0 hi1 hi2 rfl (by decide) _ N _ rfl hcA ⟨nb, no, none⟩ 31 nc (byC (bytesV ⟨xs, xc, xk, xd, xn, xm, xp⟩)) rfl (by rw [byC_len, bytesV_len]) HNw.out (byC_one _) (by unfold maxLen; omega) (by omega) (by omega) ?_; intro v' w4 hown' hgrow _)
          have hb4 : Below w1.heap.size w1 w4 := HBr3.out.grown hgrow (by omega) (fun q e => (own_cells hcA e).1)
          have HO4 : Hid (w4.ownsRow w1.heap.size 5 1 v' (encL (V.take (j + 1))).length (byC (encL (V.take (j + 1))))) := by
            show World.ownsRow _ _ _ _ _ _ _
            rw [HT.out, List.length_append, bytesV_len, byC_app, HN.out]
            exact hown'
          have HB4 := Lib.hid hb4
          clear hown' hgrow hb4 hcA
          go_wp2_with fail
          go_roundw
          case rel => exact ⟨j + 1, by omega, by go_num, HO4, HB4⟩
          case measure => simp [intOf]; omega
        · obtain rfl : j = V.length := by omega
          rw [List.take_length] at HO
          have HBo2 := Lib.hid (HBo.out.after HBr.out)
          have HB2 := Lib.hid (HB1.out.trans (HBr.out.mono HB1.out.size))
          obtain ⟨wa, wc, hwe, hw1, hw2, hwR⟩ := row_bytes HO.out
          subst hwe
          have HWR := Lib.hid hwR
          have HEn : Hid (Calls Try.prog 25 #[.pointer (some ⟨p, 0, none⟩)] wr (RowB wr wr.heap.size (encL V))) := encode_any (.pointer (some ⟨p, 0, none⟩)) V (by omega) wr (fun W hW => ballM_ok w.heap.size p bm sv V W (HBo2.out.st.after hW) (by omega))
          clear hwR HO
          go_wp2_with fail
          with_reducible refine HEn.out.mono ?_
          rintro e w3 ⟨cv, rfl, hown, hb3⟩
          obtain ⟨ca, cc, rfl, hc1, hc2, hcR⟩ := row_bytes hown
          have HCR := Lib.hid hcR
          have HWR3 := Lib.hid (HWR.out.after hb3)
          have HBo3 := Lib.hid (HBo2.out.after hb3)
          have HB3 := Lib.hid (HB2.out.trans (hb3.mono HB2.out.size))
          have hEl : (encL V).length ≤ 1240 := by rw [encL_len]; omega
          clear hcR hown hb3 c0
          go_wp2_with fail
          with_reducible refine (Decode_ok ca cc (encL V) (by omega) hc1 hc2 (encL_is V) w3 HCR.out).mono ?_
          intro e w4 hd4
          obtain ⟨p4, bm4, sv4, rfl, hst4⟩ := codes_dec HAcc.out hd4
          have hb4 := hd4.1
          have HSt4 := Lib.hid hst4
          have HCR4 := Lib.hid (HCR.out.after hb4)
          have HWR4 := Lib.hid (HWR3.out.after hb4)
          have HBo4 := Lib.hid (HBo3.out.after hb4)
          have HB4 := Lib.hid (HB3.out.trans (hb4.mono HB3.out.size))
          clear hst4 hd4 hb4
          go_wp2_with fail
          with_reducible refine (bytes_same ca wa cc wc (encL V) (by omega) w4 HCR4.out HWR4.out).mono ?_
          rintro e w5 ⟨rfl, hb5⟩
          have HSt5 := Lib.hid (HSt4.out.after hb5)
          have HBo5 := Lib.hid (HBo4.out.after hb5)
          have HB5 := Lib.hid (HB4.out.trans (hb5.mono HB4.out.size))
          clear hb5
          go_wp2_with fail
          with_reducible refine (same_ok12 w3.heap.size w.heap.size p4 bm4 sv4 rp (.slice ra V.length rc) V w5 HSt5.out HBo5.out.rf (by omega)).mono ?_
          rintro e w6 ⟨rfl, hb6⟩
          have HB6 := Lib.hid (HB5.out.trans (hb6.mono HB5.out.size))
          clear hb6
          have HR6 : Hid (RecsAt w6 a' 1 encY bs) := RowsAt.after HR.out HB6.out
          go_wp2_with fail
          with_reducible refine (Decode_ok a' cap' bs (by omega) hcb hcb2 HBy.out w6 HR6.out).mono ?_
          intro e w7 hd7
          have HB7 := Lib.hid (HB6.out.trans (hd7.1.mono HB6.out.size))
          have HR7 : Hid (RecsAt w7 a' 1 encY bs) := RowsAt.after HR6.out hd7.1
          rcases hd7.2 with ⟨_, rfl⟩ | ⟨m, k, _, _, _, hne, rfl⟩ | ⟨m, hm, hg, p7, bm7, sv7, rfl, hst7⟩
          · clear hd7
            go_wp2_with fail
            with_reducible refine (awake_ok12 _).mono ?_
            rintro e w99 ⟨rfl, hb99⟩
            go_wp2_with fail
            go_ret
            exact ⟨rfl, HB7.out.trans (hb99.mono (HB7.out).size)⟩
          · obtain ⟨E, hE⟩ : ∃ E, erK bs k = E := ⟨_, rfl⟩
            rw [hE] at hne ⊢
            have e0 : (E != 0) = true := by simpa using hne
            clear hd7 hE hne
            go_wp2_with fail
            with_reducible refine (awake_ok12 _).mono ?_
            rintro e w99 ⟨rfl, hb99⟩
            go_wp2_with fail
            go_ret
            exact ⟨rfl, HB7.out.trans (hb99.mono (HB7.out).size)⟩
          · have hrt := dec_enc hm HBy.out hg m (Nat.le_refl _)
            rw [List.take_of_length_le (by omega)] at hrt
            have HSt7 := Lib.hid hst7
            have HEn7 : Hid (Calls Try.prog 25 #[.pointer (some ⟨p7, 0, none⟩)] w7 (RowB w7 w7.heap.size bs)) := by
              have := encode_any (.pointer (some ⟨p7, 0, none⟩)) (VKd bs m) (by rw [hrt.2]; omega) w7 (fun W hW => ballM_ok w6.heap.size p7 bm7 sv7 (VKd bs m) W (HSt7.out.after hW) (by rw [hrt.2]; omega))
              rw [hrt.1] at this
              exact this
            clear hd7 hm hg hst7 hrt
            go_wp2_with fail
            with_reducible refine HEn7.out.mono ?_
            rintro e w8 ⟨xv, rfl, hown8, hb8⟩
            obtain ⟨xa, xcap, rfl, _, _, hxR⟩ := row_bytes hown8
            have HXR := Lib.hid hxR
            have HR8 : Hid (RecsAt w8 a' 1 encY bs) := RowsAt.after HR7.out hb8
            have HB8 := Lib.hid (HB7.out.trans (hb8.mono HB7.out.size))
            clear hxR hown8 hb8
            go_wp2_with fail
            with_reducible refine (bytes_same xa a' xcap cap' bs (by omega) w8 HXR.out HR8.out).mono ?_
            rintro e w9 ⟨rfl, hb9⟩
            have HB9 := Lib.hid (HB8.out.trans (hb9.mono HB8.out.size))
            clear hb9
            go_wp2_with fail
            with_reducible refine (awake_ok12 _).mono ?_
            rintro e w99 ⟨rfl, hb99⟩
            go_wp2_with fail
            go_ret
            exact ⟨rfl, HB9.out.trans (hb99.mono (HB9.out).size)⟩

set_option maxRecDepth 100000 in
open Go.ChangeShapes Go.WideShapes Go.ChangeAt in
theorem walk_BitempCodes {H : Type} (enc : TypeId × Value → H) (base : Nat) (W : World) (v : Value) (d : DataW H) (p : List MemPlace) (h : DataW.Trod enc Try.prog W 0 (fun _ => true) true 22 v d p) (ok : Value.okWide Try.prog W .any base 22 v)
    (v1 : Value) (d1 : DataW H) (p1 : List MemPlace) (h1 : DataW.Trod enc Try.prog W 0 (fun _ => true) true 52 v1 d1 p1) (ok1 : Value.okWide Try.prog W .any base 52 v1)
    {ts : List TypeId} {ds : List (DataW H)} (hsz : (DataW.weightsEach Try.prog (22 :: ts) (d :: ds)).all (· ≤ reachBytes) = true) :
    Calls Try.prog 6 #[v, v1] W fun e w' => e = .returned (.bool true) ∧ Below W.heap.size W w' := by
  obtain ⟨a, cap, l, rfl, hl, hc, _, hT⟩ := ops_arg h ok
  obtain ⟨a', cap', bs, rfl, hl', hc', _, hT', hB⟩ := bytes_arg h1 ok1
  have hr := slice_reach Try.underlying22 h hsz (j := 0) rfl rfl
  rw [bytesOp] at hr
  exact codes_law a cap l (by omega) a' cap' bs hl' hc' hB W hT hT'

end Go.Proofs.Ytkloijkfaooodaa
