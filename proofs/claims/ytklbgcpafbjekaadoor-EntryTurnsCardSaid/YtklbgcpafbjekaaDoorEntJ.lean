/- The document's answer for entries: Tagged, Check. -/
import Derived.Test.YtklbgcpafbjekaaDoorEntI
import Derived.Test.YtklbgcpafbjekaaDoorRefD
import Derived.BigGuardPart
import Derived.Deep.DeepCutAuto
import Derived.Deep.QuietTactic
import Derived.BigQuiet
namespace Go.Proofs.YtklbgcpafbjekaaDoor
open Go.RowKit
set_option linter.unusedVariables false
set_option linter.unusedSimpArgs false

set_option maxHeartbeats 1000000 in
theorem tagged_ok (con day cur : Int) (w : World) : Calls Tryd.prog 24 #[.int .i64 con, .int .i64 day, .int .i64 cur] w fun e w' => e = .returned (.bool (tagOk con day cur)) ∧ w = w' := by
  go_enter Tryd.func24, Tryd.ntmps24
  go_wp2_with fail
  all_goals (go_ret; exact ⟨ret_bool (by rw [Bool.eq_iff_iff]; simp [tagOk, belowB]; omega), rfl⟩)

/-- The first numbers, and the first k lines, are in range. -/
def prefB (s : Six) (ls : List Ln) (k : Nat) : Bool := (tagOk s.con s.day s.cur && decide (0 ≤ s.seq) && decide (0 ≤ s.per) && decide (-1 ≤ s.ref)) && (ls.take k).all lineOk
theorem prefB_zero (s : Six) (ls : List Ln) : prefB s ls 0 = (tagOk s.con s.day s.cur && decide (0 ≤ s.seq) && decide (0 ≤ s.per) && decide (-1 ≤ s.ref)) := by simp [prefB]
theorem prefB_succ (s : Six) (ls : List Ln) (k : Nat) (h : k < ls.length) : prefB s ls (k + 1) = (prefB s ls k && lineOk (Ln.at ls k)) := by
  unfold prefB
  have e1 : ls[k] = Ln.at ls k := by unfold Ln.at; rw [List.getD_eq_getElem?_getD, List.getElem?_eq_getElem h]; rfl
  rw [List.take_succ_eq_append_getElem h, List.all_append, e1, Bool.and_assoc (b := List.all _ _)]
  simp
theorem prefB_len (s : Six) (ls : List Ln) : prefB s ls ls.length = rangesB s ls := by
  unfold prefB rangesB
  rw [List.take_length, ← List.not_all_eq_any_not, Bool.not_not]
  cases tagOk s.con s.day s.cur <;> cases ls.all lineOk <;> simp

theorem lines_bad {s : Six} {ls : List Ln} {k : Nat} (hk : k < ls.length) (h : ¬ (Ln.at ls k).c = s.cur) (g : linesB s ls = true) : False := by
  unfold linesB at g
  rw [Bool.and_eq_true] at g
  have := any_first ls (fun l => l.c != s.cur) k hk (by simpa using h)
  rw [this] at g
  exact absurd g.2 (by decide)
theorem lines_good {s : Six} {ls : List Ln} (h2 : 2 ≤ ls.length) (h8 : ls.length ≤ 8) (h : ∀ j, j < ls.length → (Ln.at ls j).c = s.cur) : linesB s ls = true := by
  unfold linesB
  rw [any_none ls _ fun j hj => by simpa using h j hj, decide_eq_true h2, decide_eq_true h8]
  rfl

theorem some_bad {ls : List Ln} {k : Nat} (hk : k < ls.length) (h : (Ln.at ls k).a = 0) : someB ls = false := by
  unfold someB
  rw [any_first ls (fun l => l.a == 0) k hk (by simpa using h)]
  rfl
theorem some_good {ls : List Ln} (h : ∀ j, j < ls.length → (Ln.at ls j).a ≠ 0) : someB ls = true := by
  unfold someB
  rw [any_none ls _ fun j hj => by simpa using h j hj]
  rfl
theorem fits_bad {ls : List Ln} {k : Nat} (hk : k < ls.length) (h : (Ln.at ls k).a = -9223372036854775808) : fitsB ls = false := by
  unfold fitsB
  rw [any_first ls (fun l => l.a == -9223372036854775808) k hk (by simpa using h)]
  rfl
theorem fits_good {ls : List Ln} (h : ∀ j, j < ls.length → (Ln.at ls j).a ≠ -9223372036854775808) : fitsB ls = true := by
  unfold fitsB
  rw [any_none ls _ fun j hj => by simpa using h j hj]
  rfl

set_option maxHeartbeats 4000000 in
set_option maxRecDepth 100000 in
theorem refcheck_ok (s : Six) (a : Option Addr) (cap : Nat) (ls : List Ln) (w : World) (hx : LnAt w a ls) (hl : ls.length ≤ 1000000) (hw : AllWf ls) :
    Calls Tryd.prog 14 #[entV s a ls.length cap] w fun e w' => e = .returned (.int .i64 (checkE s ls)) ∧ Below w.heap.size w w' := by
  obtain ⟨i0, hi, hz0, hz1, hz2⟩ := info_parts infoInt
  have HX := Lib.hid hx
  have HW := Lib.hid hw
  have HE : Hid (checkE s ls = if rangesB s ls then (if linesB s ls then (if someB ls then (if fitsB ls then (if evenB ls then 0 else 20) else 11) else 12) else 1) else 10) := rfl
  have HP0 := Lib.hid (prefB_zero s ls)
  have HPS := Lib.hid (prefB_succ s ls)
  have HPL := Lib.hid (prefB_len s ls)
  obtain ⟨con, day, cur, seq, per, ref⟩ := s
  show Calls Tryd.prog _ #[.agg #[.int .i64 con, .int .i64 day, .int .i64 cur, .int .i64 seq, .int .i64 per, .int .i64 ref, .slice a ls.length cap]] w _
  obtain ⟨wa, hwa⟩ : ∃ wa, w.alloc (.cells #[.int .i64 con, .int .i64 day, .int .i64 cur, .int .i64 seq, .int .i64 per, .int .i64 ref, .slice a ls.length cap] 35) = wa := ⟨_, rfl⟩
  have hba : Below w.heap.size w wa := by rw [← hwa]; exact (Below.refl _ _).alloc (Nat.le_refl _) _
  have hza : wa.heap.size = w.heap.size + 1 := by rw [← hwa]; simp
  have hbx : Blk wa w.heap.size #[.int .i64 con, .int .i64 day, .int .i64 cur, .int .i64 seq, .int .i64 per, .int .i64 ref, .slice a ls.length cap] 35 := by rw [← hwa]; exact Blk.new _ _ _
  have HB := Lib.hid hbx
  have HZA := Lib.hid hza
  have b0 := hbx.cell 0 rfl
  have b1 := hbx.cell 1 rfl
  have b2 := hbx.cell 2 rfl
  have b3 := hbx.cell 3 rfl
  have b4 := hbx.cell 4 rfl
  have b5 := hbx.cell 5 rfl
  have b6 := hbx.cell 6 rfl
  clear hbx hza hx hw
  go_enter Tryd.func14, Tryd.ntmps14
  go_upto_region 1 with fail
  go_cut [3] (fun s3 wx => s3 = .bool (prefB ⟨con, day, cur, seq, per, ref⟩ ls 0) ∧ wa = wx)
  case first =>
    obtain ⟨g, hg⟩ : ∃ g, tagOk con day cur = g := ⟨_, rfl⟩
    have HG := Lib.hid hg
    cases g
    all_goals
      clear hg
      go_wp2_with (go_at_call 24; refine (tagged_ok con day cur _).mono ?_; rintro e w1 ⟨rfl, rfl⟩; rw [HG.out])
      all_goals (go_meet; exact ⟨by rw [HP0.out, HG.out]; first | (simp [*]; done) | (simp [*]; omega), rfl⟩)
  case rest =>
    obtain ⟨rfl, rfl⟩ := hcut
    clear hwa b0 b1 b2 b3 b4 b5
    go_wp2_with fail
    go_loop [3, 4] (fun v i => ∃ k : Nat, k ≤ ls.length ∧ i = .int .i64 k ∧ v = .bool (prefB ⟨con, day, cur, seq, per, ref⟩ ls k)) (fun _ i => ls.length - (intOf i).toNat)
    case atStart => exact ⟨0, by omega, rfl, rfl⟩
    case round =>
      obtain ⟨k, hk, rfl, rfl⟩ := hrel
      obtain ⟨g, hg⟩ : ∃ g, prefB ⟨con, day, cur, seq, per, ref⟩ ls k = g := ⟨_, rfl⟩
      rw [hg]
      have HG := Lib.hid hg
      by_cases hlt : k < ls.length
      · obtain ⟨b, o, rfl, hc⟩ := (HX.out.after hba) (by omega)
        obtain ⟨d0, d1, d2⟩ := hc k hlt
        have hs := HPS.out k hlt
        obtain ⟨⟨lp, lc, la⟩, hLL⟩ : ∃ L, Ln.at ls k = L := ⟨_, rfl⟩
        rw [hLL, hg] at hs
        rw [hLL] at d0 d1 d2
        simp only at d0 d1 d2
        have HS := Lib.hid hs
        have j1 : (0 : Int) ≤ (k : Int) := by omega
        have j2 : (k : Int) < (ls.length : Int) := by omega
        clear hc hs hLL
        cases g
        all_goals
          clear hg
          go_wp2_with fail
          all_goals
            go_round
            case rel => exact ⟨k + 1, by omega, by go_num, by rw [HS.out]; unfold lineOk belowB; first | (simp [*]; done) | (refine congrArg Value.bool ?_; rw [Bool.eq_iff_iff]; simp [*]; omega)⟩
            case measure => simp [intOf]; omega
      · obtain rfl : k = ls.length := by omega
        rw [HPL.out] at HG
        cases g
        · clear hg
          go_wp2_with fail
          go_ret
          exact ⟨ret_int (by rw [HE.out, if_neg (by rw [HG.out]; decide)]), hba⟩
        · clear hg
          by_cases hn : 2 ≤ ls.length ∧ ls.length ≤ 8
          · obtain ⟨n1, n2⟩ := hn
            have n3 : decide ((ls.length : Int) < 2) = false := by rw [decide_eq_false_iff_not]; omega
            have n4 : decide (8 < (ls.length : Int)) = false := by rw [decide_eq_false_iff_not]; omega
            go_wp2_with fail
            clear n3 n4
            go_loopw [5] (fun i wr => ∃ k : Nat, k ≤ ls.length ∧ i = .int .i64 k ∧ (∀ j, j < k → (Ln.at ls j).c = cur) ∧ Below wa.heap.size wa wr) (fun i _ => ls.length - (intOf i).toNat)
            case atStart => exact ⟨0, by omega, rfl, fun j hj => absurd hj (by omega), Below.refl _ _⟩
            case round =>
              obtain ⟨k, hk, rfl, hall, hbl⟩ := hrel
              have HA := Lib.hid hall
              clear hall b6
              have b2 := (HB.out.after hbl).cell 2 rfl
              have b6 := (HB.out.after hbl).cell 6 rfl
              by_cases hlt : k < ls.length
              · obtain ⟨b, o, rfl, hc⟩ := ((HX.out.after hba).after hbl) (by omega)
                obtain ⟨d0, d1, d2⟩ := hc k hlt
                have j1 : (0 : Int) ≤ (k : Int) := by omega
                have j2 : (k : Int) < (ls.length : Int) := by omega
                have hend : Below w.heap.size w wr := hba.trans (hbl.mono hba.size)
                clear hc
                by_cases hcc : (Ln.at ls k).c = cur
                · have HC := Lib.hid hcc
                  rw [hcc] at d1
                  clear hcc
                  go_wp2_with (go_quiet (fail))
                  go_roundw
                  case rel => exact ⟨k + 1, by omega, by go_num, fun j hj => by
                    rcases Nat.lt_or_ge j k with g | g
                    · exact HA.out j g
                    · obtain rfl : j = k := by omega
                      exact HC.out, hbl.trans (below_draws _ _)⟩
                  case measure => simp [intOf]; omega
                · have hne : ((Ln.at ls k).c != cur) = true := by rw [bne_iff_ne]; exact hcc
                  have HC := Lib.hid hcc
                  clear hcc
                  go_wp2_with (go_quiet (fail))
                  go_ret
                  exact ⟨ret_int (by rw [HE.out, if_pos HG.out, if_neg (by intro h; exact lines_bad hlt HC.out h)]), hend.trans (below_draws _ _)⟩
              · obtain rfl : k = ls.length := by omega
                have HLB : Hid (linesB ⟨con, day, cur, seq, per, ref⟩ ls = true) := lines_good n1 n2 HA.out
                go_wp2_with fail
                clear b2 b6
                obtain ⟨wb, rfl⟩ : ∃ wb : World, wb = wr := ⟨_, rfl⟩
                go_loopw [6, 7] (fun v i wr => ∃ k : Nat, k ≤ ls.length ∧ i = .int .i64 k ∧ (∀ j, j < k → (Ln.at ls j).a ≠ 0) ∧ wr.ownsRow wa.heap.size 3 1 v k (amts ls k) ∧ Below wa.heap.size wa wr) (fun _ i _ => ls.length - (intOf i).toNat)
                case atStart => exact ⟨0, by omega, rfl, fun j hj => absurd hj (by omega), World.ownsRow_nil _ _ _ _, hbl⟩
                case round =>
                  obtain ⟨k, hk, rfl, hall, hown, hbl⟩ := hrel
                  have HA := Lib.hid hall
                  clear hall
                  have b6 := (HB.out.after hbl).cell 6 rfl
                  have hend : Below w.heap.size w wr := hba.trans (hbl.mono hba.size)
                  by_cases hlt : k < ls.length
                  · obtain ⟨b, o, rfl, hc⟩ := ((HX.out.after hba).after hbl) (by omega)
                    obtain ⟨d0, d1, d2⟩ := hc k hlt
                    have j1 : (0 : Int) ≤ (k : Int) := by omega
                    have j2 : (k : Int) < (ls.length : Int) := by omega
                    have hN : Hid (amts ls (k + 1) = amts ls k ++ [.int .i64 (Ln.at ls k).a]) := amts_succ ls k
                    obtain ⟨la, hla⟩ : ∃ la, (Ln.at ls k).a = la := ⟨_, rfl⟩
                    rw [hla] at d2 hN
                    clear hc
                    by_cases h0 : la = 0
                    · have HZ : Hid (someB ls = false) := some_bad hlt (by rw [hla]; exact h0)
                      subst h0
                      clear hla
                      go_wp2_with fail
                      go_ret
                      exact ⟨ret_int (by rw [HE.out, if_pos HG.out, if_pos HLB.out, if_neg (by rw [HZ.out]; decide)]), hend⟩
                    · have h0' : (la == 0) = false := by rw [beq_eq_false_iff_ne]; exact h0
                      have HZ : Hid ((Ln.at ls k).a ≠ 0) := by rw [hla]; exact h0
                      clear hla h0
                      go_wp2_with (at_builtin; refine wpList_append_own _ rfl _ _ 66 rfl wa.heap.size 3 i0 (.int .i64 0) 1 8 Tryd.underlying66 hi hz0 hz1 hz2 rfl (by decide) _ _ _ rfl (hown.alloc _) ⟨wr.heap.size, 0, none⟩ 1 1 [.int .i64 la] rfl rfl (by have := news_one wr (.int .i64 la) 3; simpa using this) (by simp [Value.oneCell']) (by unfold maxLen; omega) (by omega) (by have := hbl.size; simp; omega) ?_; intro v' w1 hown' hgrow _)
                      have hb3 : Below wa.heap.size wa w1 := (hbl.alloc hbl.size _).grown hgrow (by have := hbl.size; simp; omega) (fun q e => by have := (hown.lt q e).1; omega)
                      rw [← hN.out] at hown'
                      go_roundw
                      case rel => exact ⟨k + 1, by omega, by go_num, fun j hj => by
                        rcases Nat.lt_or_ge j k with g | g
                        · exact HA.out j g
                        · obtain rfl : j = k := by omega
                          exact HZ.out, hown', hb3⟩
                      case measure => simp [intOf]; omega
                  · obtain rfl : k = ls.length := by omega
                    have HSB : Hid (someB ls = true) := some_good HA.out
                    obtain ⟨c, capc, rfl, hrow⟩ := owned_amts hown
                    have HR := Lib.hid hrow
                    clear hrow hown
                    go_wp2_with fail
                    obtain ⟨wz, rfl⟩ : ∃ wz : World, wz = wr := ⟨_, rfl⟩
                    go_loop [8] (fun i => ∃ k : Nat, k ≤ ls.length ∧ i = .int .i64 k ∧ (∀ j, j < k → (Ln.at ls j).a ≠ -9223372036854775808)) (fun i => ls.length - (intOf i).toNat)
                    case atStart => exact ⟨0, by omega, rfl, fun j hj => absurd hj (by omega)⟩
                    case round =>
                      obtain ⟨k, hk, rfl, hall⟩ := hrel
                      have HA := Lib.hid hall
                      clear hall
                      by_cases hlt : k < ls.length
                      · obtain ⟨b, o, rfl, hc⟩ := HR.out (by omega)
                        have d2 := hc k hlt
                        unfold numV at d2
                        rw [at_map] at d2
                        have j1 : (0 : Int) ≤ (k : Int) := by omega
                        have j2 : (k : Int) < (ls.length : Int) := by omega
                        clear hc
                        obtain ⟨la, hla⟩ : ∃ la, (Ln.at ls k).a = la := ⟨_, rfl⟩
                        rw [hla] at d2
                        by_cases h0 : la = -9223372036854775808
                        · have HZ : Hid (fitsB ls = false) := fits_bad hlt (by rw [hla]; exact h0)
                          subst h0
                          clear hla
                          go_wp2_with fail
                          go_ret
                          exact ⟨ret_int (by rw [HE.out, if_pos HG.out, if_pos HLB.out, if_pos HSB.out, if_neg (by rw [HZ.out]; decide)]), hend⟩
                        · have h0' : (la == -9223372036854775808) = false := by rw [beq_eq_false_iff_ne]; exact h0
                          have HZ : Hid ((Ln.at ls k).a ≠ -9223372036854775808) := by rw [hla]; exact h0
                          clear hla h0
                          go_wp2_with fail
                          go_round
                          case rel => exact ⟨k + 1, by omega, by go_num, fun j hj => by
                            rcases Nat.lt_or_ge j k with g | g
                            · exact HA.out j g
                            · obtain rfl : j = k := by omega
                              exact HZ.out⟩
                          case measure => simp [intOf]; omega
                      · obtain rfl : k = ls.length := by omega
                        have HFB : Hid (fitsB ls = true) := fits_good HA.out
                        have HEV : Hid (evenB ls = decide ((ls.map Ln.a).sum = 0)) := rfl
                        have hlen : (ls.map Ln.a).length = ls.length := by simp
                        have hsum := sum_big c capc (ls.map Ln.a) wz (by rw [hlen]; exact HR.out) HW.out.amt (by rw [hlen]; exact hl)
                        rw [hlen] at hsum
                        obtain ⟨S, hS⟩ : ∃ S, (ls.map Ln.a).sum = S := ⟨_, rfl⟩
                        rw [hS] at hsum HEV
                        have HC := Lib.hid hsum
                        clear hsum hlen hS b6
                        go_wp2_with fail
                        with_reducible refine HC.out.mono ?_
                        rintro e w1 ⟨sg, ab, lb, cb, rfl, hbig, hb1, _⟩
                        have hend2 : Below w.heap.size w w1 := hend.trans (hb1.mono hend.size)
                        cases hf : fitsI S
                        · have HNO := Lib.hid (int_no S sg ab lb cb w1 hbig hf)
                          have HZ : Hid (evenB ls = false) := by rw [HEV.out, decide_eq_false_iff_not]; rintro rfl; revert hf; decide
                          clear hbig hf
                          go_wp2_with fail
                          with_reducible refine HNO.out.mono ?_
                          rintro e w2 ⟨rfl, hb2⟩
                          go_wp2_with fail
                          go_ret
                          exact ⟨ret_int (by rw [HE.out, if_pos HG.out, if_pos HLB.out, if_pos HSB.out, if_pos HFB.out, if_neg (by rw [HZ.out]; decide)]), hend2.trans (hb2.mono hend2.size)⟩
                        · have HYES := Lib.hid (int_yes S sg ab lb cb w1 hbig hf)
                          clear hbig hf
                          by_cases h0 : S = 0
                          · have HZ : Hid (evenB ls = true) := by rw [HEV.out, decide_eq_true_iff]; exact h0
                            subst h0
                            go_wp2_with fail
                            with_reducible refine HYES.out.mono ?_
                            rintro e w2 ⟨rfl, hb2⟩
                            go_wp2_with fail
                            go_ret
                            exact ⟨ret_int (by rw [HE.out, if_pos HG.out, if_pos HLB.out, if_pos HSB.out, if_pos HFB.out, if_pos HZ.out]), hend2.trans (hb2.mono hend2.size)⟩
                          · have HZ : Hid (evenB ls = false) := by rw [HEV.out, decide_eq_false_iff_not]; exact h0
                            have h0' : (S != 0) = true := by rw [bne_iff_ne]; exact h0
                            clear h0
                            go_wp2_with fail
                            with_reducible refine HYES.out.mono ?_
                            rintro e w2 ⟨rfl, hb2⟩
                            go_wp2_with fail
                            go_ret
                            exact ⟨ret_int (by rw [HE.out, if_pos HG.out, if_pos HLB.out, if_pos HSB.out, if_pos HFB.out, if_neg (by rw [HZ.out]; decide)]), hend2.trans (hb2.mono hend2.size)⟩
          · have HN := Lib.hid hn
            by_cases hn1 : (ls.length : Int) < 2
            all_goals
              have hn2 : decide ((ls.length : Int) < 2) = true ∨ decide (8 < (ls.length : Int)) = true := by rw [decide_eq_true_iff, decide_eq_true_iff]; omega
              clear hn
              first
                | (have hn3 : decide ((ls.length : Int) < 2) = true := by rw [decide_eq_true_iff]; exact hn1
                   clear hn2)
                | (have hn4 : 8 < (ls.length : Int) := by rcases hn2 with h | h <;> simp at h <;> omega
                   have hn3 : decide ((ls.length : Int) < 2) = false := by rw [decide_eq_false_iff_not]; exact hn1
                   have hn5 : decide (8 < (ls.length : Int)) = true := by rw [decide_eq_true_iff]; exact hn4
                   clear hn2)
              go_wp2_with fail
              go_ret
              exact ⟨ret_int (by rw [HE.out, if_pos HG.out, if_neg (by intro h; unfold linesB at h; rw [Bool.and_eq_true, Bool.and_eq_true] at h; exact HN.out ⟨of_decide_eq_true h.1.1, of_decide_eq_true h.1.2⟩)]), hba⟩
end Go.Proofs.YtklbgcpafbjekaaDoor
