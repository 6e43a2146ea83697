/- The document's answer for entries: Total. -/
import Derived.Test.YtklbgcpafbjekaaDoorEntN
namespace Go.Proofs.YtklbgcpafbjekaaDoor
open Go.RowKit
set_option linter.unusedVariables false
set_option linter.unusedSimpArgs false

theorem intE_yes {z : Int} (h : fitsI z = true) : intE z = .tuple #[.int .i64 z, .bool true] := by
  unfold intE
  rw [if_pos (by unfold fitsI at h; simpa using h)]
theorem intE_no {z : Int} (h : fitsI z = false) : intE z = .tuple #[.int .i64 0, .bool false] := by
  unfold intE
  rw [if_neg (by unfold fitsI at h; simpa using h)]
theorem totIn_skip {t : Ln} {party : Int} {e : En} (h : ¬ e.s.tag = t) (j : Nat) : totIn t party e j = [] := by
  unfold totIn
  rw [List.filter_eq_nil_iff.2 fun l _ => by rw [hit_tag h]; decide]
  rfl

set_option maxHeartbeats 4000000 in
theorem reftotal_ok (tp tc ta party : Int) (a : Option Addr) (cap : Nat) (es : List En) (w : World) (h : EnsAt w a es) (hl : es.length ≤ 1000) :
    Calls Tryd.prog 22 #[.int .i64 tp, .int .i64 tc, .int .i64 ta, .int .i64 party, .slice a es.length cap] w fun e w' => e = .returned (intE (totK ⟨tp, tc, ta⟩ party es es.length).sum) ∧ Below w.heap.size w w' := by
  obtain ⟨i0, hi, hz0, hz1, hz2⟩ := info_parts infoInt
  have HS := Lib.hid h
  have HL := Lib.hid (totK_len ⟨tp, tc, ta⟩ party es fun i hi => (h.2 i hi).few)
  have HW := Lib.hid (totK_wf ⟨tp, tc, ta⟩ party es fun i hi => (h.2 i hi).wf)
  clear h
  go_enter Tryd.func22, Tryd.ntmps22
  go_wp2_with fail
  go_loopw [12, 13, 14] (fun v i _ wr => ∃ k : Nat, k ≤ es.length ∧ i = .int .i64 k ∧ wr.ownsRow w.heap.size 3 1 v (totK ⟨tp, tc, ta⟩ party es k).length (intsV (totK ⟨tp, tc, ta⟩ party es k)) ∧ Below w.heap.size w wr) (fun _ i _ _ => es.length - (intOf i).toNat)
  case atStart => exact ⟨0, by omega, rfl, World.ownsRow_nil _ _ _ _, Below.refl _ _⟩
  case round =>
    obtain ⟨k, hk, rfl, hown, hbl⟩ := hrel
    by_cases hlt : k < es.length
    · obtain ⟨hrows, hens⟩ := HS.out
      obtain ⟨b, o, rfl, hcell⟩ := hrows (by omega)
      have hE := hens k hlt
      have hc0 : w.cell? ⟨b, o + k * 7, none⟩ = some (.int .i64 (En.at es k).s.con) := hcell k hlt 0 _ rfl
      have hc1 : w.cell? ⟨b, o + k * 7 + 1, none⟩ = some (.int .i64 (En.at es k).s.day) := hcell k hlt 1 _ rfl
      have hc2 : w.cell? ⟨b, o + k * 7 + 2, none⟩ = some (.int .i64 (En.at es k).s.cur) := hcell k hlt 2 _ rfl
      have hc6 : w.cell? ⟨b, o + k * 7 + 6, none⟩ = some (.slice (En.at es k).a (En.at es k).ls.length (En.at es k).cap) := hcell k hlt 6 _ rfl
      have hlen := HL.out k (by omega)
      have HK : Hid (totK ⟨tp, tc, ta⟩ party es (k + 1) = totK ⟨tp, tc, ta⟩ party es k ++ totIn ⟨tp, tc, ta⟩ party (En.at es k) (En.at es k).ls.length) := rfl
      obtain ⟨E, hEE⟩ : ∃ E, En.at es k = E := ⟨_, rfl⟩
      rw [hEE] at hc0 hc1 hc2 hc6 hE HK
      clear hcell hrows hens hEE
      obtain ⟨⟨con, day, cur, seq, per, ref⟩, ea, ecap, els⟩ := E
      simp only at hc0 hc1 hc2 hc6 HK
      have HE := Lib.hid hE
      have hf : els.length ≤ 1000 := hE.few
      obtain ⟨K, hKK⟩ : ∃ K, totK ⟨tp, tc, ta⟩ party es k = K := ⟨_, rfl⟩
      rw [hKK] at hown hlen HK
      clear hKK hE
      have i1 : (0 : Int) ≤ (k : Int) := by omega
      have i2 : (k : Int) < (es.length : Int) := by omega
      have c0 := below_cell hbl hc0
      have c1 := below_cell hbl hc1
      have c2 := below_cell hbl hc2
      have C6 := Lib.hid hc6
      clear hc0 hc1 hc2 hc6
      by_cases ht : (⟨con, day, cur⟩ : Ln) = ⟨tp, tc, ta⟩
      · simp only [Ln.mk.injEq] at ht
        obtain ⟨rfl, rfl, rfl⟩ := ht
        go_wp2_with fail
        clear c0 c1 c2
        obtain ⟨wo, rfl⟩ : ∃ wo : World, wo = wr := ⟨_, rfl⟩
        go_loopw [12, 14] (fun v i wi => ∃ j : Nat, j ≤ els.length ∧ i = .int .i64 j ∧ wi.ownsRow w.heap.size 3 1 v (K ++ totIn ⟨con, day, cur⟩ party ⟨⟨con, day, cur, seq, per, ref⟩, ea, ecap, els⟩ j).length (intsV (K ++ totIn ⟨con, day, cur⟩ party ⟨⟨con, day, cur, seq, per, ref⟩, ea, ecap, els⟩ j)) ∧ Below w.heap.size w wi) (fun _ i _ => els.length - (intOf i).toNat)
        case atStart => exact ⟨0, by omega, rfl, by simpa [totIn] using hown, hbl⟩
        case round =>
          obtain ⟨j, hj, rfl, hown2, hbl2⟩ := hrel
          have c6 := below_cell hbl2 C6.out
          by_cases hlt2 : j < els.length
          · obtain ⟨b2, o2, ea', hc⟩ := (HE.out.ln.after hbl2) (by show 0 < els.length; omega)
            obtain rfl : ea = some ⟨b2, o2, none⟩ := ea'
            have hln := totIn_len ⟨con, day, cur⟩ party ⟨⟨con, day, cur, seq, per, ref⟩, some ⟨b2, o2, none⟩, ecap, els⟩ j hf
            have hy := totIn_yes (t := ⟨con, day, cur⟩) (party := party) (e := ⟨⟨con, day, cur, seq, per, ref⟩, some ⟨b2, o2, none⟩, ecap, els⟩) (j := j) hlt2
            have hn := totIn_no (t := ⟨con, day, cur⟩) (party := party) (e := ⟨⟨con, day, cur, seq, per, ref⟩, some ⟨b2, o2, none⟩, ecap, els⟩) (j := j) hlt2
            obtain ⟨d0, d1, d2⟩ := hc j hlt2
            simp only at d0 d1 d2 hy hn
            obtain ⟨⟨lp, lc, la⟩, hLL⟩ : ∃ L, Ln.at els j = L := ⟨_, rfl⟩
            rw [hLL] at d0 d1 d2 hy hn
            simp only at d0 d1 d2
            have HY := Lib.hid hy
            have HN := Lib.hid hn
            have j1 : (0 : Int) ≤ (j : Int) := by omega
            have j2 : (j : Int) < (els.length : Int) := by omega
            clear hc hLL hy hn
            by_cases hp : lp = party
            · have HT := Lib.hid (HY.out (by unfold hit; exact Bool.and_eq_true_iff.2 ⟨decide_eq_true rfl, decide_eq_true hp⟩))
              subst hp
              obtain ⟨L, hL⟩ : ∃ L, K ++ totIn ⟨con, day, cur⟩ lp ⟨⟨con, day, cur, seq, per, ref⟩, some ⟨b2, o2, none⟩, ecap, els⟩ j = L := ⟨_, rfl⟩
              have hLn : L.length ≤ 1000000 := by rw [← hL, List.length_append]; omega
              have HL2 : Hid (K ++ totIn ⟨con, day, cur⟩ lp ⟨⟨con, day, cur, seq, per, ref⟩, some ⟨b2, o2, none⟩, ecap, els⟩ (j + 1) = L ++ [la]) := by rw [HT.out, ← List.append_assoc, hL]; rfl
              rw [hL] at hown2
              clear hL
              go_wp2_with (at_builtin; refine wpList_append_own _ rfl _ _ 66 rfl w.heap.size 3 i0 (.int .i64 0) 1 8 Tryd.underlying66 hi hz0 hz1 hz2 rfl (by decide) _ _ _ rfl (hown2.alloc _) ⟨wr.heap.size, 0, none⟩ 1 1 [.int .i64 la] rfl rfl (by have := news_one wr (.int .i64 la) 3; simpa using this) (by simp [Value.oneCell']) (by unfold maxLen; omega) (by omega) (by have := hbl2.size; simp; omega) ?_; intro v' w1 hown' hgrow _)
              have hb3 : Below w.heap.size w w1 := (hbl2.alloc hbl2.size _).grown hgrow (by have := hbl2.size; simp; omega) (fun q e => by have := (hown2.lt q e).1; omega)
              rw [← intsV_snoc] at hown'
              go_roundw
              case rel => exact ⟨j + 1, by omega, by go_num, by rw [HL2.out, List.length_append]; exact hown', hb3⟩
              case measure => simp [intOf]; omega
            · have HT := Lib.hid (HN.out (hit_party hp))
              have hp' : (lp == party) = false := by rw [beq_eq_false_iff_ne]; exact hp
              clear hp
              go_wp2_with fail
              go_roundw
              case rel => exact ⟨j + 1, by omega, by go_num, by rw [HT.out]; exact hown2, hbl2⟩
              case measure => simp [intOf]; omega
          · obtain rfl : j = els.length := by omega
            go_wp2_with fail
            go_roundw
            case rel => exact ⟨k + 1, by omega, by go_num, by rw [HK.out]; exact hown2, hbl2⟩
            case measure => simp [intOf]; omega
      · have HT : Hid (totK ⟨tp, tc, ta⟩ party es (k + 1) = K) := by rw [HK.out, totIn_skip (t := ⟨tp, tc, ta⟩) (e := ⟨⟨con, day, cur, seq, per, ref⟩, ea, ecap, els⟩) ht, List.append_nil]; exact rfl
        have hor : con ≠ tp ∨ (con = tp ∧ day ≠ tc) ∨ (con = tp ∧ day = tc ∧ cur ≠ ta) := by
          by_cases a1 : con = tp
          · by_cases a2 : day = tc
            · exact .inr (.inr ⟨a1, a2, fun a3 => ht (by rw [a1, a2, a3])⟩)
            · exact .inr (.inl ⟨a1, a2⟩)
          · exact .inl a1
        clear ht
        rcases hor with h1 | ⟨rfl, h1⟩ | ⟨rfl, rfl, h1⟩
        all_goals
          have h2 := bne_iff_ne.2 h1
          clear h1
          go_wp2_with fail
          go_roundw
          case rel => exact ⟨k + 1, by omega, by go_num, by rw [HT.out]; exact hown, hbl⟩
          case measure => simp [intOf]; omega
    · obtain rfl : k = es.length := by omega
      obtain ⟨c, capc, rfl, hcl, _, _, _, _, hrow⟩ := owned_ints hown
      have hwf := HW.out es.length (Nat.le_refl _)
      have hlen := HL.out es.length (Nat.le_refl _)
      have hsum := sum_big c capc (totK ⟨tp, tc, ta⟩ party es es.length) wr hrow hwf (by omega)
      obtain ⟨S, hS⟩ : ∃ S, (totK ⟨tp, tc, ta⟩ party es es.length).sum = S := ⟨_, rfl⟩
      rw [hS] at hsum
      have HC := Lib.hid hsum
      have HSS := Lib.hid hS
      clear hsum hrow hwf hown hcl hS hlen
      go_wp2_with fail
      with_reducible refine HC.out.mono ?_
      rintro e w1 ⟨sg, ab, lb, cb, rfl, hbig, hb1, _⟩
      have hend2 : Below w.heap.size w w1 := hbl.trans (hb1.mono hbl.size)
      cases hf : fitsI S
      · have HNO := Lib.hid (int_no S sg ab lb cb w1 hbig hf)
        have HQ := Lib.hid (intE_no hf)
        clear hbig hf
        go_wp2_with fail
        with_reducible refine HNO.out.mono ?_
        rintro e w2 ⟨rfl, hb2⟩
        go_wp2_with fail
        go_ret2
        exact ⟨by rw [HSS.out, HQ.out]; rfl, hend2.trans (hb2.mono hend2.size)⟩
      · have HYES := Lib.hid (int_yes S sg ab lb cb w1 hbig hf)
        have HQ := Lib.hid (intE_yes hf)
        clear hbig hf
        go_wp2_with fail
        with_reducible refine HYES.out.mono ?_
        rintro e w2 ⟨rfl, hb2⟩
        go_wp2_with fail
        go_ret2
        exact ⟨by rw [HSS.out, HQ.out]; rfl, hend2.trans (hb2.mono hend2.size)⟩

end Go.Proofs.YtklbgcpafbjekaaDoor
