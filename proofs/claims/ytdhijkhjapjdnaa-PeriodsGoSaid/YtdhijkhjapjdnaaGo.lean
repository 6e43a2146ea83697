/- The statement PeriodsGo: its walk. -/
import Derived.Test.YtdhijkhjapjdnaaGoA
namespace Go.Proofs.Ytdhijkhjapjdnaa
open Go.RowKit Go.Shelf
set_option linter.unusedVariables false
set_option linter.unusedSimpArgs false
attribute [local go_sem] Oper.semAt_some

set_option maxRecDepth 100000 in
set_option maxHeartbeats 4000000 in
theorem go_ok (size : Int) (m r : Nat) (h1 : 100 ≤ size) (h2 : size ≤ 400) (hm : m ≤ 20) (hr : r ≤ 20) (w : World) :
    Calls Try.prog 7 #[.int .i64 size, .int .i64 m, .int .i64 r] w fun e w' => e = .returned (.bool true) ∧ Below w.heap.size w w' := by
  have hb := boxes_new w m
  have hB := two_boxes w m
  have h1' : 1 ≤ size := by omega
  have hl := last_big size (by omega) h2
  have hl2 := (last_range size h1').2
  have heq := eql_func_nil'
  refine (callsIn_wide (n := 5)).1 ?_
  refine callsIn_of_wp_marks Try.func7 rfl trivial ?_ rfl
  simp only [Try.ntmps7, List.size_toArray, List.length_cons, List.length_nil, Nat.reduceAdd, Nat.reduceSub, Array.replicate_succ, Array.replicate_zero, List.push_toArray, List.append_toArray, List.nil_append, List.cons_append]
  refine wpIn_wide.2 ?_
  go_wp2_with fail
  refine (new_ok _ _ (by omega) (by omega)).mono ?_
  rintro e w1 ⟨b, s, rfl, hP1, hb1, g1, g2⟩
  have z1 := hb1.size
  simp at z1 g1 g2
  have hx1 := hb.grown (below_grown hb1) (by simp) (by simp)
  have hB1 := hB.trans (hb1.mono (by simp; omega))
  clear hb hB hb1
  have q0 := hx1.c0
  go_wp2_with fail
  go_loopw [9] (fun i wr => ∃ k : Nat, k ≤ m ∧ i = .int .i64 k ∧ Per wr b s size k ∧ Boxes wr w.heap.size m ∧ Below w.heap.size w wr ∧ w.heap.size + 2 ≤ wr.heap.size) (fun i _ => m - (intOf i).toNat)
  case atStart => exact ⟨0, Nat.zero_le _, rfl, hP1, hx1, hB1, by omega⟩
  case round =>
    obtain ⟨k, hk, rfl, hPk, hxk, hBk, zk⟩ := hrel
    clear hP1 hx1 hB1 q0
    have q0 := hxk.c0
    by_cases hlt : k < m
    · obtain ⟨e1, e2⟩ := lockE_next size k (by omega) h2 (by omega) (by omega)
      have E1 := Lib.hid e1
      have E2 := Lib.hid e2
      clear e1 e2
      go_wp2_with fail
      refine (lock_grown b s size k _ _ _ hPk (by omega) (by omega) (by omega) (by omega)).mono ?_
      rintro e w2 ⟨rfl, hP2, hg2⟩
      rw [E1.out]
      rw [E2.out] at hP2
      have z2 := hg2.size
      have hBk2 := hBk.grown hg2 (by omega) (fun j e => by cases e; omega)
      have hx2 := hxk.grown hg2 (by simp; omega) (by simp; omega)
      clear q0
      go_wp2_with fail
      go_roundw
      case rel => exact ⟨k + 1, by omega, by go_num, hP2, hx2, hBk2, by omega⟩
      case measure => simp [intOf]; omega
    · obtain rfl : k = m := by omega
      have zb := hPk.lt
      go_wp2_with fail
      refine (all_end b s size k _ hPk).mono ?_
      rintro e wa ⟨cb, B, rfl, hPa, hBa, hba, ga1, ga2, ga3, ga4, ga5⟩
      have za := hba.size
      have hPb := hPk.after hba
      have hxa := hxk.grown (below_grown hba) (by simp) (by simp)
      have hBA := hBk.trans (hba.mono (by omega))
      clear hPk hxk hBk q0
      go_wp2_with fail
      refine (copy_end b s size k _ hPb).mono ?_
      rintro e wc ⟨cc, rfl, hPc, hbc, gc1, gc2⟩
      have zc := hbc.size
      have hPb2 := hPb.after hbc
      have hPa2 := hPa.after hbc
      have hxc := hxa.grown (below_grown hbc) (by simp) (by simp)
      have hBC := hBA.trans (hbc.mono (by omega))
      have hBa2 : wc.cell? ⟨B, 0, none⟩ = some (.pointer (some ⟨cb, 0, none⟩)) := (hbc.cell (p := ⟨B, 0, none⟩) ga4).trans hBa
      clear hPb hPa hxa hBA hBa
      go_wp2_with fail
      obtain ⟨wo, rfl⟩ : ∃ wo : World, wo = wr := ⟨_, rfl⟩
      go_loopw [12] (fun i wr => ∃ j : Nat, j ≤ r ∧ i = .int .i64 j ∧ Per wr b s size ((k + j : Nat) : Int) ∧ Per wr cb s size k ∧ Per wr cc s size k ∧ wr.cell? ⟨B, 0, none⟩ = some (.pointer (some ⟨cb, 0, none⟩)) ∧ Boxes wr w.heap.size k ∧ Below w.heap.size w wr ∧ wc.heap.size ≤ wr.heap.size) (fun i _ => r - (intOf i).toNat)
      case atStart => exact ⟨0, Nat.zero_le _, rfl, hPb2, hPa2, hPc, hBa2, hxc, hBC, Nat.le_refl _⟩
      case round =>
        obtain ⟨j, hj, rfl, hPb3, hPa3, hPc3, hB3, hx3, hB3', z3⟩ := hrel
        clear hPb2 hPa2 hPc hBa2 hxc hBC
        have q0 := hx3.c0
        by_cases hjl : j < r
        · obtain ⟨e1, e2⟩ := lockE_next size ((k + j : Nat) : Int) (by omega) h2 (by omega) (by omega)
          rw [Int.natCast_add] at e1 e2 hPb3
          have E1 := Lib.hid e1
          have E2 := Lib.hid e2
          clear e1 e2
          go_wp2_with fail
          refine (lock_grown b s size ((k : Int) + (j : Int)) _ _ _ hPb3 (by omega) (by omega) (by omega) (by omega)).mono ?_
          rintro e w4 ⟨rfl, hP4, hg4⟩
          rw [E1.out]
          rw [E2.out] at hP4
          have z4 := hg4.size
          have hs4 := hPb3.ne
          have hBk4 := hB3'.grown hg4 (by omega) (fun j e => by cases e; omega)
          have hx4 := hx3.grown hg4 (by simp; omega) (by simp; omega)
          have hPa4 := hPa3.grown hg4 (by simp; omega) (by simp; exact hs4)
          have hPc4 := hPc3.grown hg4 (by simp; omega) (by simp; exact hs4)
          have hB4 := grown_cell hg4 hB3 (by simp; omega)
          clear q0
          go_wp2_with fail
          go_roundw
          case rel => exact ⟨j + 1, by omega, by go_num, by rw [show ((k + (j + 1) : Nat) : Int) = (k : Int) + (j : Int) + 1 from by omega]; exact hP4, hPa4, hPc4, hB4, hx4, hBk4, by omega⟩
          case measure => simp [intOf]; omega
        · obtain rfl : j = r := by omega
          go_wp2_with fail
          obtain ⟨mm, hmm⟩ := Int.eq_ofNat_of_zero_le (show 0 ≤ lastP size + 1 by omega)
          have HMM := Lib.hid hmm
          have hmm1 : mm ≤ 100000 := by omega
          clear hmm q0
          have cn := cell_new_l wr (.int .i64 0) 3
          have hbn : Below wr.heap.size wr (wr.alloc (.cells #[.int .i64 0] 3)) := (Below.refl _ _).alloc (Nat.le_refl _) _
          have lb := hPb3.lt
          have lc := hPc3.lt
          have la := hPa3.lt
          have lB : B < wr.heap.size := World.block_lt_of_cell? wr _ hB3
          have l0 : w.heap.size + 1 < wr.heap.size := World.block_lt_of_cell? wr _ hx3.c1
          have hPb5 := hPb3.after hbn
          have hPa5 := hPa3.after hbn
          have hPc5 := hPc3.after hbn
          have hx5 := hx3.grown (below_grown hbn) (by simp) (by simp)
          have hB5 : (wr.alloc (.cells #[.int .i64 0] 3)).cell? ⟨B, 0, none⟩ = some (.pointer (some ⟨cb, 0, none⟩)) := (hbn.cell (p := ⟨B, 0, none⟩) lB).trans hB3
          have hBn := hB3'.trans (hbn.mono hB3'.size)
          clear hPb3 hPa3 hPc3 hx3 hB3 hB3'
          refine wpIn_wide (n := 5) |>.1 ?_
          refine wpIn_rangeFunc_ownF rfl (by omega) (gf := 23) (lb := #[.pointer (some ⟨B, 0, none⟩)]) rfl trivial (enters_of Try.func23 (by kernel_rfl) rfl)
            (all_stops _ (by omega) B cb s wr.heap.size size k mm HMM.out h1' _ hPa5 hB5 hbn.size la.1 la.2 lB hmm1) belowK_t (belowK_b hbn.size) (Below.refl _ _) (fun _ => rfl)
            (fun pre W => (Good k pre ∧ (W.cell? ⟨wr.heap.size, 0, none⟩ = some (.int .i64 (pre.length : Int)) ∧ W.frozen? ⟨wr.heap.size, 0, none⟩ = false) ∧ Boxes W w.heap.size k ∧ Per W b s size ((k + j : Nat) : Int) ∧ Per W cc s size k) ∧ Below w.heap.size w W)
            (fun c pre W => c = .ret ∧ ¬ Good k pre)
            (OwnFrom.and (Own.from (fun s A B row hs hg hr => ⟨hs.1, ⟨cell_kept hs.2.1.1 hg hr, (frozen_kept hs.2.1.1 hg hr).trans hs.2.1.2⟩, hs.2.2.1.kept hg hr, hs.2.2.2.1.kept hg hr, hs.2.2.2.2.kept hg hr⟩) _) (ownFrom_below (Nat.le_refl _) (by simp; omega)))
            (fun c s A B row hs hg hr => hs)
            ⟨⟨by rfl, cn, hx5, hPb5, hPc5⟩, hBn⟩
            ?a1 ?assign ?body ?done ?stop
          case assign =>
            intro l x W K hK
            have hK' := Lib.hid hK
            clear hK
            gi_wp2
            exact hK'.out
          case body =>
            rintro l pre x W ⟨⟨hgo, ⟨hc, hf⟩, hxW, hPbW, hPcW⟩, hBW⟩ hlen
            have q0 := hxW.c0
            have q1 := hxW.c1
            have qf := hxW.f1
            by_cases hx : x.1 = pre.length ∧ x.2 = decide ((pre.length : Int) < k)
            · obtain ⟨x1, x2⟩ := x
              obtain ⟨e1, e2⟩ := hx
              simp only at e1 e2
              subst e1
              subst e2
              have hgs : Good k (pre ++ [((pre.length : Int), decide ((pre.length : Int) < k))]) := hgo.snoc rfl rfl
              have hls : (pre ++ [((pre.length : Int), decide ((pre.length : Int) < (k : Int)))]).length = pre.length + 1 := by simp
              have HLS := Lib.hid hls
              have HGS := Lib.hid hgs
              clear hls hgs hgo
              have hp1 : pre.length ≤ 100000 := by omega
              gi_wp2
              have hW0 : wr.heap.size < W.heap.size := World.block_lt_of_cell? W _ hc
              have hgr : W.grownBy (W.setCell ⟨wr.heap.size, 0, none⟩ (.int .i64 ((pre.length : Int) + 1))) (some wr.heap.size) := grown_setCell _ _ _ _
              refine ⟨KeepsOthers.setCell _ _ _, (Below.refl wr.heap.size W).setCell (p := ⟨wr.heap.size, 0, none⟩) (Nat.le_refl _) _, ⟨HGS.out, ⟨?_, ?_⟩, ?_, ?_, ?_⟩, hBW.setCell (p := ⟨wr.heap.size, 0, none⟩) (by simp; omega) _⟩
              · rw [HLS.out, World.cell?_setCell_same W _ _ hc]
                simp
              · rw [World.frozen?_setCell]; exact hf
              · exact hxW.grown hgr (by simp; omega) (by simp; omega)
              · exact hPbW.grown hgr (by simp; omega) (by simp; omega)
              · exact hPcW.grown hgr (by simp; omega) (by simp; omega)
            · have HB := Lib.hid (Good.bad hx)
              obtain ⟨x1, x2⟩ := x
              by_cases hx1 : x1 = pre.length
              · subst hx1
                have hx2 : x2 ≠ decide ((pre.length : Int) < k) := fun e => hx ⟨rfl, e⟩
                clear hx hgo
                by_cases hpk : (pre.length : Int) < k
                · have hd : decide ((pre.length : Int) < k) = true := by simpa using hpk
                  obtain rfl : x2 = false := by rw [hd] at hx2; simpa using hx2
                  clear hx2
                  gi_wp2
                  exact ⟨KeepsOthers.setCell _ _ _, rfl, HB.out⟩
                · have hd : decide ((pre.length : Int) < k) = false := by simpa using hpk
                  obtain rfl : x2 = true := by rw [hd] at hx2; simpa using hx2
                  clear hx2
                  gi_wp2
                  exact ⟨KeepsOthers.setCell _ _ _, rfl, HB.out⟩
              · have hx2 : (x1 != (pre.length : Int)) = true := by rw [bne_iff_ne]; exact hx1
                clear hx hgo hx1
                gi_wp2
                exact ⟨KeepsOthers.setCell _ _ _, rfl, HB.out⟩
          case done =>
            rintro D ys W hD rfl ⟨⟨hgo, ⟨hc, hf⟩, hxW, hPbW, hPcW⟩, hBW⟩ hK
            rw [fullP_len] at hc
            have hlt : D < W.heap.size := (Array.getElem?_eq_some_iff.1 hK).1
            have zW : w.heap.size ≤ W.heap.size := hBW.size
            have hmmB : ((mm : Int) == lastP size + 1) = true := by rw [beq_iff_eq]; exact HMM.out.symm
            clear hgo heq hPb5 hPa5 hPc5 hx5 hB5 hBn
            go_wp2_with fail
            refine (earliest_ok cc s size k _ hPcW h1' (by omega)).mono ?_
            rintro e w2 ⟨rfl, hb2⟩
            have z2 := hb2.size
            have hPb2 := hPbW.after hb2
            go_wp2_with fail
            refine (earliest_ok b s size _ _ hPb2 h1' (by omega)).mono ?_
            rintro e w3 ⟨rfl, hb3⟩
            have z3 := hb3.size
            have hPb4 := hPb2.after hb3
            have hx4 := (hxW.grown (below_grown hb2) (by simp) (by simp)).grown (below_grown hb3) (by simp) (by simp)
            have hc4 := grown_cell (below_grown hb3) (grown_cell (below_grown hb2) hc (by simp)) (by simp)
            have hBE := (hBW.trans (hb2.mono (by omega))).trans (hb3.mono (by omega))
            have hK3 : w3.heap[D]? = some (.deferred (some [])) := (hb3.block D (by omega)).trans ((hb2.block D hlt).trans hK)
            rw [Int.natCast_add]
            have wr1 : IntKind.i64.wrap (lastP size + 1) = lastP size + 1 := IntWalk.i64_in _ (by omega)
            have wr2 : IntKind.i64.wrap ((k : Int) + (j : Int)) = (k : Int) + (j : Int) := IntWalk.i64_in _ (by omega)
            clear hK hBW hb2 hb3 hPb2 hPbW hPcW hxW hc hf
            go_wp2_with fail
            have hKr : wr.heap.size ≠ w.heap.size + 1 := by omega
            go_region_held3 (fun w' => w'.cell? ⟨wr.heap.size, 0, none⟩ = some (.int .i64 mm) ∧ w'.cell? ⟨w.heap.size, 0, none⟩ = some (.int .i64 k))
              (first | exact ⟨hc4, hx4.c0⟩ | exact ⟨hc5, hx5.c0⟩ | exact ⟨hc6, hx6.c0⟩ | exact ⟨(World.cell?_setCell_other w6 _ _ _ (fun e => hKr (congrArg Addr.block e).symm)).trans hc6, (World.cell?_setCell_other w6 _ _ _ (by simp)).trans hx6.c0⟩ | go_keep)
              (first
                | (go_at_call 13; refine (last_ok b s size _ _ hPb4.drew h1').mono ?_; rintro e w5 ⟨rfl, hb5⟩; have hc5 := grown_cell (below_grown hb5) (show w3.drew.cell? _ = _ from hc4) (by simp); have hx5 : Boxes w5 w.heap.size k := Boxes.grown (W := w3.drew) ⟨hx4.c0, hx4.c1, hx4.f1⟩ (below_grown hb5) (by simp) (by simp))
                | (go_at_call 10; refine (awake_ok _).mono ?_; rintro e w6 ⟨rfl, hb6⟩; have hc6 := grown_cell (below_grown hb6) hc5 (by simp); have hx6 := hx5.grown (below_grown hb6) (by simp) (by simp); have o6 := hx6.c1; have p6 := hx6.f1))
            have z5 := hb5.size
            have z6 := hb6.size
            simp at z5
            have hK6 : (w6.setCell ⟨w.heap.size + 1, 0, none⟩ (.bool true)).heap[D]? = some (.deferred (some [])) :=
              (Below.heap_setCell w6 _ _ D (by simp at hD; simp; omega)).trans ((hb6.block D (by omega)).trans ((hb5.block D (by simp; omega)).trans hK3))
            have hBF : Below w.heap.size w (w6.setCell ⟨w.heap.size + 1, 0, none⟩ (.bool true)) :=
              Below.setCell (((hBE.drew).trans (hb5.mono (by simp; omega))).trans (hb6.mono (by omega))) (p := ⟨w.heap.size + 1, 0, none⟩) (by simp) _
            have hr7 : (w6.setCell ⟨w.heap.size + 1, 0, none⟩ (.bool true)).cell? ⟨w.heap.size + 1, 0, none⟩ = some (.bool true) := World.cell?_setCell_same w6 _ _ o6
            go_wp2_with fail
            refine ⟨by simp, .inl ⟨_, _, rfl, run_takeDeferred hK6, ?_⟩⟩
            have hc8 := cell_kept hr7 (grownBy_putObj' _ D (.deferred none)) (fun r e => by cases e; exact ⟨_, hK6, rfl⟩)
            refine ⟨.bool true, ?_, rfl, hBF.trans (belowK_b (w := w) (Nat.le_refl _) _ D _ _ (by simp at hD; omega) hK6 rfl rfl)⟩
            simp [results, Try.f7, go_sem, hc8]
          case stop =>
            rintro D c pre W _ hpre ⟨_, hng⟩ _
            exact absurd (good_prefix hpre) hng

theorem walk_PeriodsGo (w : World) (size : Int) (_ : (Lit.int .i64 size).wf = true) (n : Int) (_ : (Lit.int .i64 n).wf = true) (more : Int) (_ : (Lit.int .i64 more).wf = true) :
    Calls Try.prog 7 #[.int .i64 size, .int .i64 n, .int .i64 more] w fun e w' => e = .returned (.bool true) ∧ Below w.heap.size w w' := by
  by_cases h1 : size < 1 ∨ 400 < size
  · exact go_pre1 size n more h1 w
  · by_cases h2 : size < 100 ∨ (100 ≤ size ∧ n < 0) ∨ (100 ≤ size ∧ 20 < n) ∨ (100 ≤ size ∧ 0 ≤ n ∧ n ≤ 20 ∧ more < 0) ∨ (100 ≤ size ∧ 0 ≤ n ∧ n ≤ 20 ∧ 20 < more)
    · exact go_pre2 size n more (by omega) (by omega) h2 w
    · obtain ⟨m, rfl⟩ := Int.eq_ofNat_of_zero_le (show 0 ≤ n by omega)
      obtain ⟨r, rfl⟩ := Int.eq_ofNat_of_zero_le (show 0 ≤ more by omega)
      exact go_ok size m r (by omega) (by omega) (by omega) (by omega) w

end Go.Proofs.Ytdhijkhjapjdnaa
